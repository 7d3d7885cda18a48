/- Codes: Clone of numbers, the comparison by lengths, a code in memory. The library's stable sort of no numbers. Codes: New. Codes: codes, Codes. The document's Check, Weight, May, Codes of lengths. The document's codes. The document's Take. The symbols of lengths and distances: their tables. No program in sight. Tokens and what they tell; which tokens bytes have. No program in sight. -/
import Derived.Test.YtiijhaajaglabaaGreatBk02
import Derived.Test.YtiijhaajaglabaaGreatBk03
import Derived.Test.YtiijhaajaglabaaGreatBk05
import Derived.Test.YtiijhaajaglabaaGreatBk06
import Derived.Test.YtiijhaajaglabaaGreatBk01
set_option linter.unusedVariables false
set_option linter.unusedSimpArgs false
set_option linter.unusedVariables false
namespace Go.Proofs.YtiijhaajaglabaaGreat
open Go.RowKit Pal Pal.So
theorem oneCell_zI (l : List Int) : ∀ u ∈ zI l,u.oneCell' = true := fun u hu => by
 obtain ⟨x,_,rfl⟩ := List.mem_map.1 hu
 rfl
theorem slInt : SlT Tryz.prog 55 3 1 8 := slT_of (z := .int .i64 0) (by kernel_rfl) (by kernel_rfl) rfl (by decide)
theorem nil_eqlI (w : World) : (binOp .eql 55 (.slice none 0 0) (.slice none 0 0)).run Tryz.prog w = .ok (.bool true) w := by kernel_rfl
theorem some_eqlI (a : Addr) (n c : Nat) (w : World) : (binOp .eql 55 (.slice (some a) n c) (.slice none 0 0)).run Tryz.prog w = .ok (.bool false) w := by kernel_rfl
set_option maxRecDepth 100000 in
theorem clone_ints {w : World} {v : Value} {l : List Int} (hrd : Rd w 1 v l.length (zI l)) (hl : l.length ≤ 1000000) : Calls Tryz.prog 105 #[v] w fun e w' =>
  ∃ v',e = .returned v' ∧ Own w' 3 1 v' l.length (zI l) ∧ Chg [] w w' ∧ New w v' := by
 have HRD := Pal.hid hrd
 obtain ⟨ao,cap,rfl,_,hmc,hn,_⟩ := hrd
 have hne := nil_eqlI
 have hse := some_eqlI
 cases ao with
 | none =>
  obtain ⟨h0,rfl⟩ := hn rfl
  clear hn
  have hws : l = [] := List.eq_nil_of_length_eq_zero h0
  subst hws
  go_enter Tryz.func105,Tryz.ntmps105
  go_wp2
  go_ret
  exact ⟨_,rfl,own_nil _ _ _,Chg.refl _ _,New.nil _⟩
 | some a =>
  clear hn
  have ho := World.ownsRow_lit (base := 0) (e := 3) (size := 1) w #[] 0 (Nat.zero_le _) (by decide) rfl
  have ha := (Chg.refl [] w).alloc (.cells #[] 3)
  have hr := HRD.out.keep ha (by simp)
  go_enter Tryz.func105,Tryz.ntmps105
  go_wp2_with (at_builtin; refine wpList_app slInt rfl _ _ rfl rfl rfl ho hr (oneCell_zI l) (by omega) (by unfold maxLen; omega) ?_; rintro v' w' h1 h2 h3)
  go_ret
  have h2' : Chg [w.heap.size] (w.alloc (.cells #[] 3)) w' := h2
  have h3' : v'.ownBlock = some w.heap.size ∨ v'.ownBlock = some (w.alloc (.cells #[] 3)).heap.size := h3
  refine ⟨v',rfl,by simpa using h1,ha.trans h2' (fun k hk => by simp at hk; omega),fun k hk => ?_⟩
  rcases h3' with h3 | h3
  ·rw [h3] at hk
   have : w.heap.size = k := by simpa using hk
   omega
  ·rw [h3] at hk
   have : (w.alloc (.cells #[] 3)).heap.size = k := by simpa using hk
   simp at this
   omega
theorem cmp_any {w : World} {B : Nat} {v : Value} {l : List Int} (hb : w.heap[B]? = some (.cells #[v] 55 (0,0))) (hrd : Rd w 1 v l.length (zI l)) (hr : ∀ x ∈ l,0 ≤ x ∧ x ≤ 15) (a b : Nat) (ha : a < l.length) (hbl : b < l.length) :
  Calls Tryz.prog 107 #[z64 a,z64 b,.pointer (some ⟨B,0,none⟩)] w fun e w' => e = .returned (z64 (l.getD a 0 - l.getD b 0)) ∧ ∃ n,w' = w.drewN n := by
 have c0 := cell_at (i := 0) hb
 simp at c0
 obtain ⟨b',off,cap,rfl,-,-,hcell⟩ := hrd.at (by simp; omega)
 have hx := hcell a _ (zI_at ha)
 have hy := hcell b _ (zI_at hbl)
 have h1 := hr _ (show l.getD a 0 ∈ l by rw [List.getD_eq_getElem?_getD,List.getElem?_eq_getElem ha]; exact List.getElem_mem ha)
 have h2 := hr _ (show l.getD b 0 ∈ l by rw [List.getD_eq_getElem?_getD,List.getElem?_eq_getElem hbl]; exact List.getElem_mem hbl)
 have hai : (a : Int) < l.length := by omega
 have hbi : (b : Int) < l.length := by omega
 generalize l.getD a 0 = x at *
 generalize l.getD b 0 = y at *
 generalize l.length = n at *
 have hwi : IntKind.i64.wrap (x - y) = x - y := IntWalk.i64_in _ (by omega)
 clear hcell hrd hr hb
 go_enter Tryz.func107,Tryz.ntmps107
 go_wp2_with fail
 go_quiet (fail)
 go_wp2_with fail
 go_ret
 exact ⟨rfl,_,rfl⟩
theorem cmpI_of {w : World} {g B : Nat} {v : Value} {l : List Int} (hb : w.heap[B]? = some (.cells #[v] 55 (0,0))) (hrd : Rd w 1 v l.length (zI l)) (hr : ∀ x ∈ l,0 ≤ x ∧ x ≤ 15) (hg : B ≠ g) (hv : slBlock v ≠ some g) :
  CmpI w g B (fun s => l.getD s 0) (fun s => s < l.length) := fun wx hx x y ux uy => by
 refine (cmp_any (hx.heap hb (by simp; exact hg)) (hrd.keep hx (fun k hk hm => hv (by simp at hm; rw [hk,hm]))) hr x.1 y.1 ux uy).mono ?_
 rintro e w' ⟨rfl,n,rfl⟩
 exact ⟨_,rfl,by show _ ↔ l.getD x.1 0 < l.getD y.1 0; omega,(Chg.refl _ _).drewN n⟩
def codeC (lv : Value) (f : Nat → Nat) (sv : Value) : Array Value := (lv :: (((List.range 16).map fun n => z64 (f n : Nat)) ++ [sv])).toArray
theorem codeC_0 (lv sv : Value) (f : Nat → Nat) : (codeC lv f sv)[0]? = some lv := rfl
theorem codeC_n (lv sv : Value) (f : Nat → Nat) {n : Nat} (h : n < 16) : (codeC lv f sv)[1 + n]? = some (z64 (f n : Nat)) := by
 unfold codeC
 rw [List.getElem?_toArray,Nat.add_comm,List.getElem?_cons_succ,List.getElem?_append_left (by simpa using h)]
 simp [h]
theorem codeC_s (lv sv : Value) (f : Nat → Nat) : (codeC lv f sv)[17]? = some sv := rfl
theorem codeC_set (lv sv : Value) (f : Nat → Nat) {n : Nat} (h : n < 16) (u : Nat) : (codeC lv f sv).setIfInBounds (1 + n) (z64 (u : Nat)) = codeC lv (fun m => if m = n then u else f m) sv := by
 unfold codeC
 rw [List.setIfInBounds_toArray,Nat.add_comm,List.set_cons_succ,List.set_append_left _ _ (by simpa using h)]
 congr 3
 refine List.ext_getElem? fun j => ?_
 rw [List.getElem?_set]
 by_cases hj : j < 16
 ·by_cases hjn : n = j
  ·subst hjn; simp [h]
  ·rw [if_neg hjn]
   simp [hj,Ne.symm hjn]
 ·have h1 : n ≠ j := by omega
  rw [if_neg h1,List.getElem?_eq_none (by simp; omega),List.getElem?_eq_none (by simp; omega)]
theorem codeC_setS (lv sv sv' : Value) (f : Nat → Nat) : (codeC lv f sv).setIfInBounds 17 sv' = codeC lv f sv' := rfl
structure Cod (w : World) (c : Nat) (lv sv : Value) (l : List Int) : Prop where
 box : w.heap[c]? = some (.cells (codeC lv (Pal.Cd.many l l.length) sv) 188 (0,0))
 lens : Own w 3 1 lv l.length (zI l)
 syms : Own w 3 1 sv (Pal.Cd.ord l).length (zL (Pal.Cd.ord l))
 lc : lv.ownBlock ≠ some c
 sc : sv.ownBlock ≠ some c
theorem Cod.keep {S : List Nat} {w w' : World} {c : Nat} {lv sv : Value} {l : List Int} (h : Cod w c lv sv l) (hc : Chg S w w') (h1 : c ∉ S) (h2 : ∀ k,lv.ownBlock = some k → k ∉ S) (h3 : ∀ k,sv.ownBlock = some k → k ∉ S) : Cod w' c lv sv l :=
 ⟨hc.heap h.box h1,hc.owns h.lens h2,hc.owns h.syms h3,h.lc,h.sc⟩
theorem Cod.still {w w' : World} {c : Nat} {lv sv : Value} {l : List Int} (h : Cod w c lv sv l) (hc : Chg [] w w') : Cod w' c lv sv l := h.keep hc (by simp) (by simp) (by simp)
structure Nw (W w : World) (B c : Nat) (v lv sv : Value) (l : List Int) (i : Nat) : Prop where
 bb : w.heap[B]? = some (.cells #[v] 55 (0,0))
 box : w.heap[c]? = some (.cells (codeC lv (Pal.Cd.many l i) sv) 188 (0,0))
 lens : Own w 3 1 lv l.length (zI l)
 syms : Own w 3 1 sv (Pal.Cd.syms l i).length (zL (Pal.Cd.syms l i))
 cb : c ≠ B
 lc : lv.ownBlock ≠ some c
 sc : sv.ownBlock ≠ some c
 lb : lv.ownBlock ≠ some B
 sb : sv.ownBlock ≠ some B
 ls : ∀ k,lv.ownBlock = some k → sv.ownBlock ≠ some k
 nb : W.heap.size ≤ B
 nc : W.heap.size ≤ c
 nl : New W lv
 ns : New W sv
 chg : Chg [] W w
 s0 : Pal.Cd.syms l i = [] → sv = .slice none 0 0
theorem Nw.skip {W w : World} {B c : Nat} {v lv sv : Value} {l : List Int} {i : Nat} (h : Nw W w B c v lv sv l i) (h0 : ¬ 0 < l.getD i 0) : Nw W w B c v lv sv l (i + 1) := by
 have e : Pal.Cd.syms l (i + 1) = Pal.Cd.syms l i := by rw [Pal.Cd.syms_succ,if_neg h0,List.append_nil]
 have e2 : Pal.Cd.many l (i + 1) = Pal.Cd.many l i := by funext n; rw [Pal.Cd.many_succ,if_neg (fun h => h0 h.1),Nat.add_zero]
 exact { h with box := by rw [e2]; exact h.box,syms := by rw [e]; exact h.syms,s0 := by rw [e]; exact h.s0 }
theorem Nw.more {W w w1 w2 w3 : World} {B c : Nat} {v lv sv sv' : Value} {l : List Int} {i n : Nat} (h : Nw W w B c v lv sv l i) (h0 : 0 < l.getD i 0) (hn : Pal.Cd.len l i = n) (h16 : n < 16)
  (e1 : w1 = (w.setCell ⟨c,1 + n,none⟩ (z64 (Pal.Cd.many l i n + 1 : Nat))).drew) (e2 : w2 = w1.alloc (.cells #[z64 i] 3))
  (ho : Own w3 3 1 sv' ((Pal.Cd.syms l i).length + 1) (zL (Pal.Cd.syms l i) ++ [z64 i])) (hc : Chg sv.ownBlock.toList w2 w3) (hat : sv'.ownBlock = sv.ownBlock ∨ sv'.ownBlock = some w2.heap.size) :
  Nw W (w3.setCell ⟨c,17,none⟩ sv') B c v lv sv' l (i + 1) := by
 have hcl := lt_heap h.box
 have hBl := lt_heap h.bb
 have c1 : Chg [c] w w1 := by rw [e1]; exact ((Chg.refl _ _).setCell (p := ⟨c,1 + n,none⟩) (.inl (by simp)) _).drew
 have c2 : Chg [c] w w2 := by rw [e2]; exact c1.alloc _
 have hs2 : w2.heap.size = w.heap.size + 1 := by rw [e2,e1]; simp
 have hbox1 : w1.heap[c]? = some (.cells (codeC lv (Pal.Cd.many l (i + 1)) sv) 188 (0,0)) := by
  rw [e1]
  have h3 := heap_dr (heap_set (i := 1 + n) (u := z64 (Pal.Cd.many l i n + 1 : Nat)) h.box)
  rw [codeC_set lv sv _ h16] at h3
  rw [h3]
  congr 4
  funext m
  rw [Pal.Cd.many_succ]
  by_cases hm : m = n
  ·subst hm; rw [if_pos rfl,if_pos ⟨h0,hn⟩]
  ·rw [if_neg hm,if_neg (fun h => hm (by rw [← h.2,hn])),Nat.add_zero]
 have hbox2 : w2.heap[c]? = some (.cells (codeC lv (Pal.Cd.many l (i + 1)) sv) 188 (0,0)) := by rw [e2]; exact heap_old hbox1
 have hbox3 := hc.heap hbox2 (by simp; exact h.sc)
 have c3 : Chg (c :: sv.ownBlock.toList) w w3 := (c2.mono (T := c :: sv.ownBlock.toList) (fun k hk => .inl (by simp at hk; simp [hk]))).trans hc (fun k hk => .inl (by simp at hk; simp [hk]))
 have hnew : ∀ b,b < w.heap.size → sv.ownBlock ≠ some b → sv'.ownBlock ≠ some b := fun b hb hn => by
  rcases hat with e | e
  ·rw [e]; exact hn
  ·rw [e,hs2]; simp; omega
 have hsc := hnew c hcl h.sc
 have c4 : Chg [c] w3 (w3.setCell ⟨c,17,none⟩ sv') := (Chg.refl _ _).setCell (p := ⟨c,17,none⟩) (.inl (by simp)) _
 refine ⟨?_,?_,?_,?_,h.cb,h.lc,hsc,h.lb,hnew B hBl h.sb,?_,h.nb,h.nc,h.nl,?_,?_,fun e => ?_⟩
 ·exact c4.heap (c3.heap h.bb (by simp; exact ⟨h.cb.symm,h.sb⟩)) (by simp; exact h.cb.symm)
 ·have := heap_set (i := 17) (u := sv') hbox3
  rwa [codeC_setS] at this
 ·have h5 := c3.owns h.lens (fun k hk => by simp; exact ⟨fun e => h.lc (by rw [hk,e]),h.ls k hk⟩)
  exact c4.owns h5 (fun k hk => by simp; exact fun e => h.lc (by rw [hk,e]))
 ·rw [Pal.Cd.syms_succ,if_pos h0,List.length_append,zL,List.map_append]
  exact own_set_far ho (p := ⟨c,17,none⟩) hsc _
 ·intro k hk
  exact hnew k (own_lt h.lens hk) (h.ls k hk)
 ·intro k hk
  rcases hat with e | e
  ·rw [e] at hk; exact h.ns k hk
  ·rw [e,hs2] at hk
   have := h.chg.size
   simp at hk
   omega
 ·have h6 : Chg [] W w3 := h.chg.trans c3 (fun k hk => .inr (by
   have := h.nc
   simp at hk
   rcases hk with rfl | hk
   ·exact h.nc
   ·exact h.ns k hk))
  exact h6.setCell (p := ⟨c,17,none⟩) (.inr h.nc) _
 ·rw [Pal.Cd.syms_succ,if_pos h0] at e
  simp at e
end Go.Proofs.YtiijhaajaglabaaGreat
namespace Go.Proofs.YtiijhaajaglabaaGreat
open Go.RowKit Pal Pal.So
theorem ins0 (w : World) (fv : Value) : Calls Tryz.prog 138 #[.slice none 0 0,z64 0,z64 0,fv] w fun e w' => e = .returned (.tuple #[]) ∧ w' = w := by
 go_enter Tryz.func138,Tryz.ntmps138
 go_wp2_with fail
 refine wp_loop_rounds 1 ?_
 rw [rounds_succ]
 go_wp2_with fail
 go_end0
 exact ⟨rfl,rfl⟩
theorem stable0 (w : World) (fv : Value) : Calls Tryz.prog 125 #[.slice none 0 0,z64 0,fv] w fun e w' => e = .returned (.tuple #[]) ∧ w' = w := by
 go_enter Tryz.func125,Tryz.ntmps125
 go_wp2_with fail
 refine wp_loop_rounds 1 ?_
 rw [rounds_succ]
 go_wp2_with fail
 refine (ins0 _ _).mono ?_
 rintro e w2 ⟨rfl,rfl⟩
 go_wp2_with fail
 refine wp_loop_rounds 1 ?_
 rw [rounds_succ]
 go_wp2_with fail
 go_end0
 exact ⟨rfl,rfl⟩
theorem sort0 (w : World) (fv : Value) : Calls Tryz.prog 106 #[.slice none 0 0,fv] w fun e w' => e = .returned (.tuple #[]) ∧ w' = w := by
 go_enter Tryz.func106,Tryz.ntmps106
 go_wp2_with fail
 refine (stable0 _ _).mono ?_
 rintro e w2 ⟨rfl,rfl⟩
 go_wp2_with fail
 go_end0
 exact ⟨rfl,rfl⟩
end Go.Proofs.YtiijhaajaglabaaGreat
namespace Go.Proofs.YtiijhaajaglabaaGreat
open Go.RowKit Pal Pal.So
def newE (l : List Int) : Int := if chkE l = 0 then (if 32768 < wtL l then 130 else 0) else chkE l
set_option maxRecDepth 100000 in
set_option maxHeartbeats 4000000 in
theorem new_ok {w : World} {v : Value} {l : List Int} (hrd : Rd w 1 v l.length (zI l)) (hl : l.length ≤ 9223372036854775807) (h : newE l = 0) :
  Calls Tryz.prog 73 #[v] w fun e w' => ∃ c lv sv,e = .returned (.tuple #[.pointer (some ⟨c,0,none⟩),z64 0]) ∧ Cod w' c lv sv l ∧ w.heap.size ≤ c ∧ New w lv ∧ New w sv ∧ Chg [] w w' := by
 obtain ⟨w1,hw1⟩ : ∃ w1,w1 = w.alloc (.cells #[v] 55) := ⟨_,rfl⟩
 have c1 : Chg [] w w1 := by rw [hw1]; exact (Chg.refl _ _).alloc _
 have hb : w1.heap[w.heap.size]? = some (.cells #[v] 55 (0,0)) := by rw [hw1]; exact heap_new _ _
 have HW := Pal.hid (weight_any (hrd.keep c1 (by simp)) hl)
 have h0 : chkE l = 0 := by
  unfold newE at h
  by_cases h0 : chkE l = 0
  ·exact h0
  ·rw [if_neg h0] at h; exact absurd h h0
 obtain ⟨hr,h320⟩ := chkE_ok h0
 have HR := Pal.hid hr
 have hWle : ¬ (32768 : Int) < (wtL l : Nat) := by
  unfold newE at h
  rw [if_pos h0] at h
  by_cases h2 : 32768 < wtL l
  ·rw [if_pos h2] at h; cases h
  ·omega
 rw [if_pos h0,h0] at HW
 have HC1 := Pal.hid c1
 have HB := Pal.hid hb
 have HRD := Pal.hid hrd
 have hsh : ∃ ao cap,v = .slice ao l.length cap := by
  obtain ⟨ao,cap,rfl,-,-,-,-⟩ := hrd
  exact ⟨_,_,rfl⟩
 obtain ⟨B,hB⟩ : ∃ B,B = w.heap.size := ⟨_,rfl⟩
 have c0 := cell_at (i := 0) hb
 simp at c0
 rw [← hB] at HB c0
 have HBE := Pal.hid hB
 have hBl : B < w1.heap.size := lt_heap HB.out
 generalize wtL l = W at *
 clear hb h c1 hl h0 hr hrd
 obtain ⟨ao,cap,rfl⟩ := hsh
 go_enter Tryz.func73,Tryz.ntmps73
 go_wp2_with fail
 rw [← hw1,← hB]
 clear hw1 hB
 refine HW.out.mono ?_
 rintro e w2 ⟨rfl,m,rfl⟩
 have hc2 : Chg [] w (w1.drewN m) := HC1.out.drewN m
 have HB2 : Hid ((w1.drewN m).heap[B]? = some (.cells #[.slice ao l.length cap] 55 (0,0))) := HB
 have hc02 : (w1.drewN m).cell? ⟨B,0,none⟩ = _ := c0
 have hBl2 : B < (w1.drewN m).heap.size := hBl
 generalize w1.drewN m = w2 at *
 have HCL := Pal.hid (clone_ints (HRD.out.keep hc2 (by simp)) (by omega))
 have HC2 := Pal.hid hc2
 clear hc2 c0 hBl
 go_wp2_with fail
 refine HCL.out.mono ?_
 rintro e w3 ⟨lv,rfl,ho3,hc3,hn3⟩
 obtain ⟨la,lc,rfl⟩ := own_slice ho3
 have hc03 := hc3.cell hc02 (by simp)
 have HC3 := Pal.hid (HC2.out.trans hc3 (by simp))
 have HO3 := Pal.hid ho3
 have HN3 := Pal.hid (hn3.later HC2.out.size)
 have HB3 := Pal.hid (hc3.heap HB2.out (by simp))
 have HN32 := Pal.hid hn3
 have hBl3 : B < w3.heap.size := lt_heap HB3.out
 clear hc02 ho3 hc3 hn3 hBl2
 go_wp2_with fail
 obtain ⟨c,hc⟩ : ∃ c,c = w3.heap.size := ⟨_,rfl⟩
 obtain ⟨w4,hw4⟩ : ∃ w4,w4 = w3.alloc (.cells (codeC (.slice la l.length lc) (Pal.Cd.many l 0) (.slice none 0 0)) 188) := ⟨_,rfl⟩
 have HNW : Hid (Nw w w4 B c (.slice ao l.length cap) (.slice la l.length lc) (.slice none 0 0) l 0) := Pal.hid (by
  have c4 : Chg [] w3 w4 := by rw [hw4]; exact (Chg.refl _ _).alloc _
  have hs3 := HC3.out.size
  have hBl3 := lt_heap HB3.out
  refine ⟨c4.heap HB3.out (by simp),by rw [hw4,hc]; exact heap_new _ _,c4.owns HO3.out (by simp),own_nil _ _ _,by omega,?_,by simp [Value.ownBlock],?_,by simp [Value.ownBlock],by simp [Value.ownBlock],by rw [HBE.out]; exact Nat.le_refl _,by omega,HN3.out,New.nil _,HC3.out.trans c4 (by simp),fun _ => rfl⟩
  ·intro e
   have := own_lt HO3.out e
   omega
  ·intro e
   have := HN32.out B e
   have := lt_heap HB2.out
   omega)
 rw [← hc]
 have hw5 : w3.alloc (.cells #[.slice la l.length lc,.int .i64 0,.int .i64 0,.int .i64 0,.int .i64 0,.int .i64 0,.int .i64 0,.int .i64 0,.int .i64 0,.int .i64 0,.int .i64 0,.int .i64 0,.int .i64 0,.int .i64 0,.int .i64 0,.int .i64 0,.int .i64 0,.slice none 0 0] 188) = w4 := hw4.symm
 rw [hw5]
 have HCE := Pal.hid hc
 clear hw4 hw5 hc
 go_loopw [27] (fun iv wr => ∃ (i : Nat) (sv : Value),iv = z64 i ∧ Hid (i ≤ l.length) ∧ Hid (Nw w wr B c (.slice ao l.length cap) (.slice la l.length lc) sv l i)) (fun iv _ => l.length - (intOf iv).toNat)
 case atStart => exact ⟨0,_,rfl,Pal.hid (Nat.zero_le _),HNW⟩
 case round =>
  obtain ⟨i,sv,rfl,HI,HN⟩ := hrel
  have hi := HI.out
  have hcB := (cell_at (i := 0) HN.out.bb).trans rfl
  have hbl := lt_heap HN.out.bb
  by_cases hlt : i < l.length
  ·have hlti : (i : Int) < l.length := by omega
   obtain ⟨b,off,cap',hv,-,-,hcell⟩ := HRD.out.at (by simp; omega)
   obtain ⟨rfl,rfl⟩ : ao = some ⟨b,off,none⟩ ∧ cap' = cap := by simpa [eq_comm] using hv
   clear hv
   have hx := HN.out.chg.cell (hcell i _ (zI_at hlt)) (by simp)
   have hrng := HR.out _ (show l.getD i 0 ∈ l by rw [List.getD_eq_getElem?_getD,List.getElem?_eq_getElem hlt]; exact List.getElem_mem hlt)
   have HSK : Hid (¬ 0 < l.getD i 0 → Nw w wr B c (.slice (some ⟨b,off,none⟩) l.length cap') (.slice la l.length lc) sv l (i + 1)) := Pal.hid (fun h0 => HN.out.skip h0)
   have hwi : IntKind.i64.wrap ((i : Int) + 1) = ((i + 1 : Nat) : Int) := IntWalk.i64_in _ (by omega)
   by_cases hN : 0 < l.getD i 0
   ·obtain ⟨n,hn⟩ : ∃ n : Nat,l.getD i 0 = n := ⟨(l.getD i 0).toNat,by omega⟩
    have hlen : Pal.Cd.len l i = n := by unfold Pal.Cd.len; omega
    have hn16 : n < 16 := by omega
    have HMO : Hid (∀ w1 w2 w3 sv',w1 = (wr.setCell ⟨c,1 + n,none⟩ (z64 (Pal.Cd.many l i n + 1 : Nat))).drew → w2 = w1.alloc (.cells #[z64 i] 3) → Own w3 3 1 sv' ((Pal.Cd.syms l i).length + 1) (zL (Pal.Cd.syms l i) ++ [z64 i]) → Chg sv.ownBlock.toList w2 w3 → (sv'.ownBlock = sv.ownBlock ∨ sv'.ownBlock = some w2.heap.size) → Nw w (w3.setCell ⟨c,17,none⟩ sv') B c (.slice (some ⟨b,off,none⟩) l.length cap') (.slice la l.length lc) sv' l (i + 1)) := Pal.hid fun w1 w2 w3 sv' e1 e2 ho hc hat => HN.out.more hN hlen hn16 e1 e2 ho hc hat
    have hml := Pal.Cd.many_le l i n
    have HSL := Pal.hid (Pal.Cd.length_syms l i)
    have hcn := (cell_at (i := 1 + n) HN.out.box).trans (codeC_n _ sv _ hn16)
    have hfn : wr.frozen? ⟨c,1 + n,none⟩ = false := free_at HN.out.box
    rw [hn] at hx hN
    generalize Pal.Cd.many l i n = M at *
    have hwm : IntKind.i64.wrap ((M : Int) + 1) = ((M + 1 : Nat) : Int) := IntWalk.i64_in _ (by omega)
    have hni : (n : Int) < 16 := by omega
    clear hcell hrng hlen hn
    go_wp2_with fail
    go_region
    obtain ⟨w5,hw5⟩ : ∃ w5,w5 = (wr.setCell ⟨c,1 + n,none⟩ (z64 (M + 1 : Nat))).drew := ⟨_,rfl⟩
    rw [show (wr.setCell ⟨c,1 + n,none⟩ (.int .i64 ((M : Int) + 1))).drew = w5 from hw5.symm]
    have c5 : Chg [c] wr w5 := by rw [hw5]; exact ((Chg.refl _ _).setCell (p := ⟨c,1 + n,none⟩) (.inl (by simp)) _).drew
    have hbx : w5.heap[c]? = some (.cells ((codeC (.slice la l.length lc) (Pal.Cd.many l i) sv).setIfInBounds (1 + n) (z64 (M + 1 : Nat))) 188 (0,0)) := by
     rw [hw5]
     exact heap_dr (heap_set (i := 1 + n) (u := z64 (M + 1 : Nat)) HN.out.box)
    rw [codeC_set _ _ _ hn16] at hbx
    have h17 := (cell_at (i := 17) hbx).trans (codeC_s _ _ _)
    have f17 : w5.frozen? ⟨c,17,none⟩ = false := free_at hbx
    have hcl := lt_heap hbx
    have HOS := Pal.hid (c5.owns HN.out.syms (fun k hk => by simp; exact fun e => HN.out.sc (by rw [hk,e])))
    obtain ⟨sa,sc,rfl⟩ := own_slice HN.out.syms
    have HSC := Pal.hid HN.out.sc
    have hb1 : ((Pal.Cd.syms l i).length + 1) * 8 ≤ 140737488355328 := by have := HSL.out; omega
    have hb2 : (Pal.Cd.syms l i).length + 1 ≤ maxLen := by have := HSL.out; unfold maxLen; omega
    have HR2 : Hid (Rd (w5.alloc (.cells #[z64 i] 3)) 1 (.slice (some ⟨w5.heap.size,0,none⟩) 1 1) 1 [z64 i]) := Pal.hid (Rd.one (m := 1) (c := 1) (sz := 1) (heap_new w5 (.cells #[z64 i] 3)) rfl)
    have HW5 := Pal.hid hw5
    clear hw5 c5 hcn hfn
    go_wp2_with (at_builtin; refine wpList_app (v := .slice sa (Pal.Cd.syms l i).length sc) slInt rfl _ _ rfl rfl rfl (World.ownsRow.alloc HOS.out _) HR2.out (by intro u hu; simp at hu; subst hu; rfl) hb1 hb2 ?_)
    intro v3 w6 own3 chg3 hat3
    have HNX := Pal.hid (HMO.out _ _ _ _ HW5.out rfl own3 chg3 (by rw [show (w5.alloc (.cells #[z64 i] 3)).heap.size = w5.heap.size + 1 by simp]; exact hat3))
    have q0 := chg3.heap (heap_old hbx) (by simp; exact HSC.out)
    have q2 : w6.frozen? ⟨c,17,none⟩ = false := free_at q0
    have q3 := lt_heap q0
    have q1 := (cell_at (i := 17) q0).trans (codeC_s _ _ _)
    obtain ⟨a3,c3,rfl⟩ := own_slice own3
    clear own3 chg3 hat3 q0 hbx h17 f17 hb1 hb2
    go_wp2_with fail
    exact ⟨⟨i + 1,_,rfl,Pal.hid (by omega),HNX⟩,by simp [intOf]; omega⟩
   ·have HNX := Pal.hid (HSK.out hN)
    clear hcell HSK
    generalize l.getD i 0 = N at *
    go_wp2_with fail
    exact ⟨⟨i + 1,sv,rfl,Pal.hid (by omega),HNX⟩,by simp [intOf]; omega⟩
  ·have hie : i = l.length := by omega
   have hlti : ¬ (i : Int) < l.length := by omega
   subst hie
   have c17 := (cell_at (i := 17) HN.out.box).trans (codeC_s _ _ _)
   have hcl := lt_heap HN.out.box
   have HL0 := Pal.hid hi
   by_cases hs0 : Pal.Cd.syms l l.length = []
   ·obtain rfl := HN.out.s0 hs0
    have hord : Pal.Cd.ord l = [] := by
     have := Pal.Cd.ord_of_sorted (l := l) (D := []) (fun x hx => (HR.out x hx).2) (by rw [hs0]; exact List.Perm.refl _) List.Pairwise.nil
     have h2 := congrArg (List.map Prod.fst) this
     rw [Pal.Cd.tag_fst] at h2
     exact h2.symm
    have HCO : Hid (Cod wr c (.slice la l.length lc) (.slice none 0 0) l) := Pal.hid ⟨HN.out.box,HN.out.lens,by rw [hord]; exact own_nil _ _ _,HN.out.lc,HN.out.sc⟩
    clear hord hs0 hi hlt
    go_wp2_with fail
    refine (sort0 _ _).mono ?_
    rintro e w7 ⟨rfl,rfl⟩
    go_wp2_with fail
    go_ret2
    exact ⟨c,_,_,rfl,HCO.out,HN.out.nc,HN.out.nl,HN.out.ns,HN.out.chg⟩
   ·have hpos : 0 < (Pal.Cd.syms l l.length).length := List.length_pos_iff.2 hs0
    obtain ⟨g,gc,rfl,hgl⟩ := own_form HN.out.syms hpos
    have hlen0 : 0 < l.length := by have := Pal.Cd.length_syms l l.length; omega
    have hsb : slBlock (.slice ao l.length cap) ≠ some g := by
     obtain ⟨b,off,cap',hv,-,hbl,-⟩ := HRD.out.at (by simp; omega)
     rw [hv]
     intro e
     obtain rfl : b = g := by simpa [slBlock] using e
     have := HN.out.ns b rfl
     omega
    have hcm := cmpI_of (g := g) HN.out.bb (HRD.out.keep HN.out.chg (by simp)) HR.out (fun e => HN.out.sb (by rw [e]; rfl)) hsb
    have hsl : SlI wr g (Pal.Cd.syms l l.length).length gc (Pal.Cd.tag (Pal.Cd.syms l l.length)) := ⟨by simp [Pal.Cd.tag],by
     have e : encI (Pal.Cd.tag (Pal.Cd.syms l l.length)) = zL (Pal.Cd.syms l l.length) := by simp [encI,Pal.Cd.tag]
     rw [e]
     exact HN.out.syms⟩
    have HSO := Pal.hid (sortStableI hcm hsl (fun x hx => (Pal.Cd.mem_syms.1 (Pal.Cd.mem_tag.1 hx).1).1) (by
     unfold Tags Pal.Cd.tag
     rw [List.pairwise_map]
     exact Pal.Cd.syms_lt l l.length) (by have := Pal.Cd.length_syms l l.length; omega))
    clear hcm hsl hsb hs0 hpos hi hlt hgl
    go_wp2_with fail
    refine HSO.out.mono ?_
    rintro e w7 ⟨rfl,D',hp,hsd,hsl,hc7⟩
    have hD := Pal.Cd.ord_of_sorted (fun x hx => (HR.out x hx).2) hp hsd
    have hll : (Pal.Cd.syms l l.length).length = (Pal.Cd.ord l).length := by
     have := hp.length_eq
     rw [hD] at this
     simpa [Pal.Cd.tag] using this.symm
    have HCO : Hid (Cod w7 c (.slice la l.length lc) (.slice (some ⟨g,0,none⟩) (Pal.Cd.syms l l.length).length gc) l) := Pal.hid (by
     refine ⟨hc7.heap HN.out.box (by simp; exact fun e => HN.out.sc (by rw [e]; rfl)),hc7.owns HN.out.lens (fun k hk => by simp; exact fun e => HN.out.ls k hk (by rw [e]; rfl)),?_,HN.out.lc,HN.out.sc⟩
     have h8 := hsl.2
     rw [hD] at h8
     have e : encI (Pal.Cd.tag (Pal.Cd.ord l)) = zL (Pal.Cd.ord l) := by simp [encI,Pal.Cd.tag]
     rw [e] at h8
     rw [← hll]
     exact h8)
    have HC7 : Hid (Chg [] w w7) := Pal.hid (HN.out.chg.trans hc7 (fun k hk => .inr (HN.out.ns k (by simp at hk; rw [hk]; rfl))))
    clear hp hsd hsl hc7 hD hll
    go_wp2_with fail
    go_ret2
    exact ⟨c,_,_,rfl,HCO.out,HN.out.nc,HN.out.nl,HN.out.ns,HC7.out⟩
end Go.Proofs.YtiijhaajaglabaaGreat
namespace Pal.Cd
theorem ord_sorted (l : List Int) : (ord l).Pairwise fun a b => len l a ≤ len l b := by
 have h := sorted_ordUp (l := l) 15
 unfold Pal.So.Sorted tag at h
 rw [List.pairwise_map] at h
 refine h.imp fun {a b} hab => ?_
 unfold len
 rcases hab with h1 | h1
 ·have : l.getD a 0 < l.getD b 0 := h1
  omega
 ·have : l.getD a 0 = l.getD b 0 := h1.1
  omega
theorem at_code {l : List Int} (h15 : ∀ x ∈ l,x ≤ 15) {j : Nat} (hj : j < (ord l).length) :
  (runC l ((ord l).take j) (initC l)).2.1 ≤ len l (ord l)[j] ∧ (runC l ((ord l).take j) (initC l)).1 ≤ j * 2 ^ (runC l ((ord l).take j) (initC l)).2.1 ∧ len l (ord l)[j] ≤ 15 ∧ (ord l)[j] < l.length ∧ 0 < l.getD (ord l)[j] 0 := by
 have hm := mem_ordUp.1 (List.getElem_mem hj)
 have hs := ord_sorted l
 refine ⟨?_,?_,hm.2.2,hm.1,hm.2.1⟩
 ·cases j with
  | zero => simp [runC,initC]
  | succ i =>
   rw [List.take_succ_eq_append_getElem (by omega),run_snoc]
   exact List.pairwise_iff_getElem.1 hs i (i + 1) (by omega) hj (by omega)
 ·have := run_small ((ord l).take j) (initC l) 0 (hs.sublist (List.take_sublist _ _)) (fun s _ => by simp [initC]) (by simp [initC])
  rwa [List.length_take,Nat.min_eq_left (by omega),Nat.zero_add] at this
theorem length_ord (l : List Int) (h15 : ∀ x ∈ l,x ≤ 15) : (ord l).length = (syms l l.length).length := by
 have hnd : (tag (ord l)).Perm (tag (syms l l.length)) := by
  refine (List.perm_ext_iff_of_nodup ?_ ?_).2 fun x => ?_
  ·exact (sorted_ordUp 15).imp fun {a b} h e => by subst e; exact h.not h
  ·unfold tag
   rw [List.nodup_iff_pairwise_ne,List.pairwise_map]
   exact (syms_lt l l.length).imp fun {a b} h e => by simp at e; omega
  ·rw [mem_tag,mem_tag,mem_syms,show ord l = ordUp l 15 from rfl,mem_ordUp]
   constructor
   ·rintro ⟨⟨h1,h2,_⟩,h3⟩
    exact ⟨⟨h1,h2⟩,h3⟩
   ·rintro ⟨⟨h1,h2⟩,h3⟩
    refine ⟨⟨h1,h2,?_⟩,h3⟩
    have := h15 (l.getD x.1 0) (by rw [List.getD_eq_getElem?_getD,List.getElem?_eq_getElem h1]; exact List.getElem_mem h1)
    unfold len
    omega
 simpa [tag] using hnd.length_eq
end Pal.Cd
namespace Go.Proofs.YtiijhaajaglabaaGreat
open Go.RowKit Pal Pal.So Pal.Cd
theorem slU64c : SlT Tryz.prog 95 54 1 8 := slT_of (z := .int .u64 0) (by kernel_rfl) (by kernel_rfl) rfl (by decide)
set_option maxRecDepth 100000 in
set_option maxHeartbeats 4000000 in
theorem codes_any {w : World} {c : Nat} {lv sv : Value} {l : List Int} (h : Cod w c lv sv l) (hr : ∀ x ∈ l,0 ≤ x ∧ x ≤ 15) (hl : l.length ≤ 320) :
  Calls Tryz.prog 74 #[.pointer (some ⟨c,0,none⟩)] w fun e w' => ∃ v,e = .returned v ∧ Own w' 54 1 v l.length ((codes l).map b64) ∧ New w v ∧ Chg [] w w' := by
 have HH := Pal.hid h
 have HR := Pal.hid hr
 obtain ⟨la,lc,rfl⟩ := own_slice h.lens
 obtain ⟨sa,sc,rfl⟩ := own_slice h.syms
 have c0 := (cell_at (i := 0) h.box).trans (codeC_0 _ _ _)
 have c17 := (cell_at (i := 17) h.box).trans (codeC_s _ _ _)
 have hcl := lt_heap h.box
 have HSL : Hid ((ord l).length ≤ 320) := Pal.hid (by
  rw [length_ord l (fun x hx => (hr x hx).2)]
  have := length_syms l l.length
  omega)
 clear h hr
 go_enter Tryz.func74,Tryz.ntmps74
 go_wp2_with (at_make; refine wpList_mk (n := l.length) slU64c rfl _ _ rfl rfl rfl rfl rfl (by omega) (by unfold maxLen; omega) ?_)
 intro z hz w1 own1 chg1
 have HZ : Hid (Own w1 54 1 (.slice (some ⟨w.heap.size,0,none⟩) l.length l.length) l.length ((List.replicate l.length 0).map b64)) := Pal.hid (by
  have e : z = b64 0 := by
   have h2 : (Tryz.prog.info? 54).bind (·.zero) = some (b64 0) := by kernel_rfl
   exact Option.some.inj (hz.symm.trans h2)
  rw [e] at own1
  have own2 : Own w1 54 1 (.slice (some ⟨w.heap.size,0,none⟩) l.length l.length) l.length (madeCells #[b64 0] l.length).toList := own1
  rw [madeCells_one,toList_zrow] at own2
  have e2 : (List.replicate l.length 0).map b64 = List.replicate l.length (b64 0) := by simp
  rw [e2]
  exact own2)
 have HC1 := Pal.hid chg1
 have c17' := chg1.cell c17 (by simp)
 have c0' := chg1.cell c0 (by simp)
 have hcl' := Nat.lt_of_lt_of_le hcl chg1.size
 obtain ⟨G,hG⟩ : ∃ G,G = w.heap.size := ⟨_,rfl⟩
 rw [← hG] at HZ
 rw [← hG]
 have HG := Pal.hid hG
 clear hG hz own1 chg1 c17 c0 hcl
 go_wp2_with fail
 go_loopw [4,5,19] (fun kv av iv wr => ∃ (i : Nat),iv = z64 i ∧ Hid (i ≤ (ord l).length) ∧ kv = b64 (runC l ((ord l).take i) (initC l)).1 ∧ av = z64 (runC l ((ord l).take i) (initC l)).2.1 ∧ Hid (Own wr 54 1 (.slice (some ⟨G,0,none⟩) l.length l.length) l.length ((runC l ((ord l).take i) (initC l)).2.2.map b64)) ∧ Hid (Chg [] w wr)) (fun _ _ iv _ => (ord l).length - (intOf iv).toNat)
 case atStart => exact ⟨0,rfl,Pal.hid (Nat.zero_le _),rfl,rfl,HZ,HC1⟩
 case round =>
  obtain ⟨i,rfl,HI,rfl,rfl,HO,HC⟩ := hrel
  have hi := HI.out
  have HHr := Pal.hid (HH.out.still HC.out)
  have d0 := (cell_at (i := 0) HHr.out.box).trans (codeC_0 _ _ _)
  have hclr := lt_heap HHr.out.box
  by_cases hlt : i < (ord l).length
  ·have hlti : (i : Int) < (ord l).length := by omega
   obtain ⟨g,rfl,-⟩ := own_addr HHr.out.syms (by omega)
   obtain ⟨h1,h2,h3,h4,h5⟩ := at_code (fun x hx => (HR.out x hx).2) hlt
   have hx := own_cell HHr.out.syms i (u := z64 ((ord l)[i] : Nat)) (by simp [hlt])
   have HST : Hid (runC l ((ord l).take (i + 1)) (initC l) = stepC l (runC l ((ord l).take i) (initC l)) (ord l)[i]) := Pal.hid (by
    rw [List.take_succ_eq_append_getElem hlt,run_snoc])
   obtain ⟨g2,rfl,-⟩ := own_addr HHr.out.lens (by omega)
   generalize (ord l)[i] = s at *
   have hy := own_cell HHr.out.lens s (u := z64 (len l s : Nat)) (by
    rw [zI_at h4]
    congr 2
    unfold len
    omega)
   have hLR := length_run (l := l) ((ord l).take i) (initC l)
   generalize runC l ((ord l).take i) (initC l) = st at *
   obtain ⟨code,was,out⟩ := st
   simp only at h1 h2
   have hLR : out.length = l.length := by simpa [initC] using hLR
   unfold stepC at HST
   simp only at HST
   generalize len l s = n at *
   obtain ⟨k,hk⟩ : ∃ k,k = n - was := ⟨_,rfl⟩
   rw [← hk] at HST
   have hwk : IntKind.i64.wrap ((n : Int) - was) = (k : Int) := by
    rw [show (n : Int) - was = (k : Int) by omega]
    exact IntWalk.i64_in _ (by omega)
   obtain ⟨X,hX⟩ : ∃ X,X = code * 2 ^ k := ⟨_,rfl⟩
   rw [← hX] at HST
   have hXle : X ≤ i * 2 ^ n := by
    rw [hX,hk]
    have := Nat.mul_le_mul_right (2 ^ (n - was)) h2
    rwa [Nat.mul_assoc,← Nat.pow_add,show was + (n - was) = n by omega] at this
   have hX2 : X ≤ 320 * 2 ^ 15 := Nat.le_trans hXle (Nat.mul_le_mul (by have := HSL.out; omega) (Nat.pow_le_pow_right (by omega) h3))
   have hwX : IntKind.u64.wrap ((code : Int) * 2 ^ k) = (X : Int) := by
    rw [show (code : Int) * 2 ^ k = ((code * 2 ^ k : Nat) : Int) by simp,← hX,wrap_u64,Nat.mod_eq_of_lt (by omega)]
   have hk0 : ¬ (k : Int) < 0 := by omega
   have hk64 : (k : Int) < 64 := by omega
   have hwX1 : IntKind.u64.wrap ((X : Int) + 1) = ((X + 1 : Nat) : Int) := by
    rw [show (X : Int) + 1 = ((X + 1 : Nat) : Int) by omega,wrap_u64,Nat.mod_eq_of_lt (by omega)]
   have hwi : IntKind.i64.wrap ((i : Int) + 1) = ((i + 1 : Nat) : Int) := IntWalk.i64_in _ (by have := HSL.out; omega)
   have hsi : (s : Int) < l.length := by omega
   have hol : out.length = l.length := hLR
   have hcs := own_cell HO.out s (u := b64 (out.getD s 0)) (by rw [map_at (l := out) (by omega)])
   have hfs := own_free HO.out s
   have hGl := own_lt HO.out rfl
   have HOS : Hid (Own (wr.setCell ⟨G,s,none⟩ (b64 X)) 54 1 (.slice (some ⟨G,0,none⟩) l.length l.length) l.length ((out.set s X).map b64)) := Pal.hid (by
    rw [List.map_set]
    exact own_set HO.out s (b64 X))
   have HCS : Hid (Chg [] w (wr.setCell ⟨G,s,none⟩ (b64 X))) := Pal.hid (HC.out.setCell (p := ⟨G,s,none⟩) (.inr (by show w.heap.size ≤ G; rw [HG.out]; exact Nat.le_refl _)) _)
   clear h1 h2 h3 hX hXle hX2 hLR hol hk
   go_wp2_with fail
   refine ⟨⟨i + 1,rfl,Pal.hid (by omega),?_,?_,?_,HCS⟩,?_⟩
   rotate_left 3
   ·simp [intOf]
    omega
   ·rw [HST.out]; rfl
   ·rw [HST.out]
   ·rw [HST.out]; exact HOS
  ·have hie : i = (ord l).length := by omega
   have HF : Hid (Own wr 54 1 (.slice (some ⟨G,0,none⟩) l.length l.length) l.length ((codes l).map b64)) := Pal.hid (by
    have h9 := HO.out
    rw [hie,List.take_length,codes_run] at h9
    exact h9)
   have hlti : ¬ (i : Int) < (ord l).length := by omega
   clear hie
   go_wp2_with fail
   go_ret
   exact ⟨_,rfl,HF.out,New.mk (by rw [HG.out]; exact Nat.le_refl _),HC.out⟩
theorem newE_ok {l : List Int} (h : newE l = 0) : (∀ x ∈ l,0 ≤ x ∧ x ≤ 15) ∧ l.length ≤ 320 ∧ wtL l ≤ 32768 := by
 unfold newE at h
 by_cases h0 : chkE l = 0
 ·obtain ⟨h1,h2⟩ := chkE_ok h0
  rw [if_pos h0] at h
  refine ⟨h1,h2,?_⟩
  by_cases h3 : 32768 < wtL l
  ·rw [if_pos h3] at h; cases h
  ·omega
 ·rw [if_neg h0] at h; exact absurd h h0
set_option maxHeartbeats 2000000 in
theorem codesX_ok {w : World} {v : Value} {l : List Int} (hrd : Rd w 1 v l.length (zI l)) (hl : l.length ≤ 9223372036854775807) (h : newE l = 0) :
  Calls Tryz.prog 41 #[v] w fun e w' => ∃ v',e = .returned (.tuple #[v',z64 0]) ∧ Own w' 54 1 v' l.length ((codes l).map b64) ∧ New w v' ∧ Chg [] w w' := by
 have HC := Pal.hid (new_ok hrd hl h)
 have HE := Pal.hid (newE_ok h)
 clear hrd hl h
 go_enter Tryz.func41,Tryz.ntmps41
 go_wp2_with fail
 refine HC.out.mono ?_
 rintro e w2 ⟨c,lv,sv,rfl,hcod,hcn,hln,hsn,hc2⟩
 have HCD := Pal.hid (codes_any hcod HE.out.1 HE.out.2.1)
 have HC2 := Pal.hid hc2
 clear hcod hcn hln hsn hc2
 go_wp2_with fail
 refine HCD.out.mono ?_
 rintro e w3 ⟨v',rfl,ho,hn,hc3⟩
 have HO := Pal.hid ho
 have HN := Pal.hid (hn.later HC2.out.size)
 have HC3 := Pal.hid (HC2.out.trans hc3 (by simp))
 obtain ⟨va,vc,rfl⟩ := own_slice ho
 clear ho hn hc3
 go_wp2_with fail
 go_ret2
 exact ⟨_,rfl,HO.out,HN.out,HC3.out⟩
end Go.Proofs.YtiijhaajaglabaaGreat
set_option linter.unusedVariables false
namespace Go.Proofs.YtiijhaajaglabaaGreat
open Go.RowKit Pal Pal.So Pal.Cd
end Go.Proofs.YtiijhaajaglabaaGreat
namespace Pal.Cd
theorem length_up_le (l : List Int) (k : Nat) : ∀ d,(ordUp l k).length ≤ (ordUp l (k + d)).length
 | 0 => Nat.le_refl _
 | d + 1 => by
  have := length_up_le l k d
  rw [← Nat.add_assoc,ordUp_succ,List.length_append]
  omega
theorem length_up (l : List Int) (h15 : ∀ x ∈ l,x ≤ 15) (k : Nat) (hk : k ≤ 15) : (ordUp l k).length ≤ l.length := by
 have h1 := length_up_le l k (15 - k)
 rw [show k + (15 - k) = 15 by omega] at h1
 have h2 := length_ord l h15
 have h3 := length_syms l l.length
 unfold ord at h2
 omega
end Pal.Cd
namespace Go.Proofs.YtiijhaajaglabaaGreat
open Go.RowKit Pal Pal.So Pal.Cd
end Go.Proofs.YtiijhaajaglabaaGreat
set_option linter.unusedVariables false
namespace Go.Proofs.YtiijhaajaglabaaGreat
open Go.RowKit Pal Pal.Cd
theorem tkE_none {l : List Int} {b : List Nat} (h : hitUp l b (min b.length 15) = none) : (moreUp l b.length (val b b.length) 15 → tkE l b = (0,0,120)) ∧ (¬ moreUp l b.length (val b b.length) 15 → tkE l b = (0,0,131)) := by
 unfold tkE
 rw [h]
 exact ⟨fun h2 => if_pos h2,fun h2 => if_neg h2⟩
theorem getb {b : List Nat} {k : Nat} (hb : IsBits b) (hk : k < b.length) : b.getD k 0 < 2 := hb _ (by simp [List.getD_eq_getElem?_getD,hk])
end Go.Proofs.YtiijhaajaglabaaGreat
namespace Pal
open Go
def firstsL (f : Nat) : List Nat → List Nat
 | [] => []
 | w :: ws => f :: firstsL (f + 2 ^ w) ws
def lastL (f : Nat) : List Nat → Nat
 | [] => f
 | w :: ws => lastL (f + 2 ^ w) ws
theorem length_firstsL : ∀ (ws : List Nat) (f : Nat),(firstsL f ws).length = ws.length
 | [],_ => rfl
 | w :: ws,f => by simp [firstsL,length_firstsL ws]
theorem firstsL_snoc : ∀ (ws : List Nat) (f w : Nat),firstsL f (ws ++ [w]) = firstsL f ws ++ [lastL f ws]
 | [],f,w => rfl
 | v :: ws,f,w => by simp [firstsL,lastL,firstsL_snoc ws]
theorem lastL_snoc : ∀ (ws : List Nat) (f w : Nat),lastL f (ws ++ [w]) = lastL f ws + 2 ^ w
 | [],f,w => rfl
 | v :: ws,f,w => by simp [lastL,lastL_snoc ws]
def lwAt (i : Nat) : List Nat := (List.range 29).map fun k => if 8 ≤ k ∧ k < i then k / 4 - 1 else 0
def dwAt (i : Nat) : List Nat := (List.range 30).map fun k => if 4 ≤ k ∧ k < i then k / 2 - 1 else 0
def lw : List Nat := [0,0,0,0,0,0,0,0,1,1,1,1,2,2,2,2,3,3,3,3,4,4,4,4,5,5,5,5,0]
def lf : List Nat := [3,4,5,6,7,8,9,10,11,13,15,17,19,23,27,31,35,43,51,59,67,83,99,115,131,163,195,227,258]
def lr : List Nat := [3,4,5,6,7,8,9,10,11,13,15,17,19,23,27,31,35,43,51,59,67,83,99,115,131,163,195,227,259]
def dw : List Nat := [0,0,0,0,1,1,2,2,3,3,4,4,5,5,6,6,7,7,8,8,9,9,10,10,11,11,12,12,13,13]
def df : List Nat := [1,2,3,4,5,7,9,13,17,25,33,49,65,97,129,193,257,385,513,769,1025,1537,2049,3073,4097,6145,8193,12289,16385,24577]
theorem lwAt_first : lwAt 8 = List.replicate 29 0 := by decide +kernel
theorem lwAt_last : lwAt 28 = lw := by decide +kernel
theorem lwAt_step : ∀ i,i < 28 → 8 ≤ i → lwAt (i + 1) = (lwAt i).set i (i / 4 - 1) := by decide +kernel
theorem dwAt_first : dwAt 4 = List.replicate 30 0 := by decide +kernel
theorem dwAt_last : dwAt 30 = dw := by decide +kernel
theorem dwAt_step : ∀ i,i < 30 → 4 ≤ i → dwAt (i + 1) = (dwAt i).set i (i / 2 - 1) := by decide +kernel
theorem length_lwAt (i : Nat) : (lwAt i).length = 29 := by simp [lwAt]
theorem length_dwAt (i : Nat) : (dwAt i).length = 30 := by simp [dwAt]
theorem firsts_lw : firstsL 3 lw = lr := by decide +kernel
theorem lr_set : lr.set 28 258 = lf := by decide +kernel
theorem firsts_dw : firstsL 1 dw = df := by decide +kernel
def symDown (n : Nat) (fs : List Nat) : Nat → Nat
 | 0 => 0
 | s + 1 => if n < fs.getD (s + 1) 0 then symDown n fs s else s + 1
theorem symDown_spec (n : Nat) (fs : List Nat) : ∀ s,symDown n fs s ≤ s ∧ (fs.getD 0 0 ≤ n → fs.getD (symDown n fs s) 0 ≤ n) ∧ ∀ j,symDown n fs s < j → j ≤ s → n < fs.getD j 0
 | 0 => ⟨Nat.le_refl _,fun h => h,fun j h1 h2 => by simp [symDown] at h1; omega⟩
 | s + 1 => by
  unfold symDown
  split
  ·rename_i h
   obtain ⟨h1,h2,h3⟩ := symDown_spec n fs s
   refine ⟨by omega,h2,fun j hj hj2 => ?_⟩
   rcases Nat.lt_or_ge j (s + 1) with hlt | hge
   ·exact h3 j hj (by omega)
   ·obtain rfl : j = s + 1 := by omega
    exact h
  ·rename_i h
   exact ⟨Nat.le_refl _,fun _ => by omega,fun j h1 h2 => by omega⟩
theorem lw_small : ∀ i,i < 29 → lw.getD i 0 ≤ 13 := by decide +kernel
theorem dw_small : ∀ i,i < 30 → dw.getD i 0 ≤ 13 := by decide +kernel
theorem lf_small : ∀ i,i < 29 → lf.getD i 0 ≤ 32768 := by decide +kernel
theorem df_small : ∀ i,i < 30 → df.getD i 0 ≤ 32768 := by decide +kernel
end Pal
namespace Pal
open Go
structure Tk where
 b : Nat
 l : Nat
 d : Nat
deriving DecidableEq
def Tk.ok (t : Tk) : Prop := t.b < 256 ∧ (t.l = 0 ∧ t.d = 0 ∨ t.b = 0 ∧ 3 ≤ t.l ∧ t.l ≤ 258 ∧ 1 ≤ t.d ∧ t.d ≤ 32768)
/-! ### Expand -/
def grow (acc : List Nat) (d : Nat) : Nat → List Nat
 | 0 => acc
 | n + 1 => grow (acc ++ [acc.getD (acc.length - d) 0]) d n
def put1 (acc : List Nat) (t : Tk) : List Nat := if t.l = 0 then acc ++ [t.b] else grow acc t.d t.l
structure Told where
 bytes : List Nat
 n : Nat
 code : Int
deriving DecidableEq
def expandG (most : Nat) : Nat → List Nat → List Tk → Told
 | i,acc,[] => ⟨acc,i,0⟩
 | i,acc,t :: ts =>
  if acc.length < t.d then ⟨[],i,140⟩
  else if most - acc.length < max 1 t.l then ⟨[],i,141⟩
  else expandG most (i + 1) (put1 acc t) ts
theorem length_grow (d : Nat) : ∀ (n : Nat) (acc : List Nat),(grow acc d n).length = acc.length + n
 | 0,_ => rfl
 | n + 1,acc => by rw [grow,length_grow d n]; simp; omega
theorem grow_succ (acc : List Nat) (d n : Nat) : grow acc d (n + 1) = grow acc d n ++ [(grow acc d n).getD (acc.length + n - d) 0] := by
 induction n generalizing acc with
 | zero => rfl
 | succ n ih =>
  rw [grow,ih,grow]
  simp only [List.length_append,List.length_singleton]
  rw [show acc.length + 1 + n - d = acc.length + (n + 1) - d by omega]
theorem getD_bytes {acc : List Nat} (h : ∀ x ∈ acc,x < 256) (i : Nat) : acc.getD i 0 < 256 := by
 rw [List.getD_eq_getElem?_getD]
 cases hi : acc[i]? with
 | none => simp
 | some x => simpa using h x (List.mem_of_getElem? hi)
/-! ### How long two places are alike -/
def alike (b : List Nat) (p a : Nat) : Nat → Nat → Nat
 | n,0 => n
 | n,m + 1 => if b.getD (p + n) 0 = b.getD (a + n) 0 then alike b p a (n + 1) m else n
def matchLen (b : List Nat) (p a most : Nat) : Nat := alike b p a 0 most
theorem alike_le (b : List Nat) (p a : Nat) : ∀ (m n : Nat),alike b p a n m ≤ n + m
 | 0,n => by simp [alike]
 | m + 1,n => by
  unfold alike
  split
  ·have := alike_le b p a m (n + 1); omega
  ·omega
theorem matchLen_le (b : List Nat) (p a most : Nat) : matchLen b p a most ≤ most := by
 have := alike_le b p a most 0
 unfold matchLen
 omega
theorem alike_spec (b : List Nat) (p a : Nat) : ∀ (m n : Nat),(∀ j,n ≤ j → j < alike b p a n m → b.getD (p + j) 0 = b.getD (a + j) 0) ∧ (alike b p a n m < n + m → b.getD (p + alike b p a n m) 0 ≠ b.getD (a + alike b p a n m) 0)
 | 0,n => ⟨fun j h1 h2 => by simp [alike] at h2; omega,fun h => by simp [alike] at h⟩
 | m + 1,n => by
  unfold alike
  split
  ·rename_i he
   have h := alike_spec b p a m (n + 1)
   refine ⟨fun j h1 h2 => ?_,fun h3 => h.2 (by omega)⟩
   by_cases hj : j = n
   ·rw [hj]; exact he
   ·exact h.1 j (by omega) h2
  ·rename_i he
   exact ⟨fun j h1 h2 => by omega,fun _ => he⟩
theorem three_alike {b : List Nat} {p a most : Nat} (hm : 3 ≤ most) : 3 ≤ matchLen b p a most ↔ b.getD p 0 = b.getD a 0 ∧ b.getD (p + 1) 0 = b.getD (a + 1) 0 ∧ b.getD (p + 2) 0 = b.getD (a + 2) 0 := by
 have h := alike_spec b p a most 0
 unfold matchLen
 constructor
 ·intro h3
  exact ⟨by simpa using h.1 0 (by omega) (by omega),h.1 1 (by omega) (by omega),h.1 2 (by omega) (by omega)⟩
 ·rintro ⟨e0,e1,e2⟩
  rcases Nat.lt_or_ge (alike b p a 0 most) 3 with hlt | hge
  ·exfalso
   have h2 := h.2 (by omega)
   generalize alike b p a 0 most = r at h2 hlt
   match r,hlt with
   | 0,_ => exact h2 (by simpa using e0)
   | 1,_ => exact h2 e1
   | 2,_ => exact h2 e2
  ·exact hge
/-! ### The longest match,the nearest of them: every place ahead is tried -/
def tryFrom (b : List Nat) (a most : Nat) : Nat → Nat → Tk → Tk
 | _,0,t => t
 | d,k + 1,t => if most ≤ t.l then t else
  let n := matchLen b (a - d) a most
  tryFrom b a most (d + 1) k (if 3 ≤ n ∧ t.l < n then ⟨0,n,d⟩ else t)
def mostAt (b : List Nat) (a : Nat) : Nat := min 258 (b.length - a)
def longestL (b : List Nat) (a : Nat) : Tk := if b.length ≤ a then ⟨0,0,0⟩ else tryFrom b a (mostAt b a) 1 (min 32768 a) ⟨0,0,0⟩
def tokAt (b : List Nat) (ahead : Bool) (a : Nat) : Tk :=
 let t := longestL b a
 if t.l = 0 then ⟨b.getD a 0,0,0⟩
 else if ahead = true ∧ t.l < 258 ∧ t.l < (longestL b (a + 1)).l then ⟨b.getD a 0,0,0⟩
 else t
def parseFrom (b : List Nat) (ahead : Bool) : Nat → Nat → List Tk
 | 0,_ => []
 | f + 1,a => if b.length ≤ a then [] else tokAt b ahead a :: parseFrom b ahead f (a + max 1 (tokAt b ahead a).l)
def parseL (b : List Nat) (ahead : Bool) : List Tk := parseFrom b ahead b.length 0
end Pal

/- Lengths of least cost: coins cloned, compared, sorted; a list cleared. Lengths of least cost: what the walk over coins keeps. -/
import Derived.Test.YtjmnmpelbikjjaaConcI
import Derived.Test.YtjmnmpelbikjjaaPmLow
import Derived.Lib.SliceRun
import Derived.Test.YtjmnmpelbikjjaaCoinMath
set_option linter.unusedVariables false
namespace Pal
open Go Go.RowKit
theorem own_setCells {e : TypeId} {g n c : Nat} : ∀ (vs : List Value) (o : Nat) {w : World} {xs : List Value}, Own w e 1 (.slice (some ⟨g, 0, none⟩) n c) n xs → o + vs.length ≤ n → Own (w.setCells g o vs) e 1 (.slice (some ⟨g, 0, none⟩) n c) n (xs.take o ++ vs ++ xs.drop (o + vs.length))
  | [], o, w, xs, h, hl => by simpa [World.setCells] using h
  | v :: vs, o, w, xs, h, hl => by
    have hxl : xs.length = n := by have := h.1; simpa using this
    have h1 := own_setCells vs (o + 1) (own_set h o v) (by simp at hl; omega)
    have e1 : (xs.set o v).take (o + 1) ++ vs ++ (xs.set o v).drop (o + 1 + vs.length) = xs.take o ++ (v :: vs) ++ xs.drop (o + (v :: vs).length) := by
      have ho : o < xs.length := by simp at hl; omega
      rw [List.take_succ_eq_append_getElem (by simpa using ho), List.getElem_set_self, List.take_set_of_le (Nat.le_refl _), List.drop_set_of_lt (by omega), List.length_cons, show o + 1 + vs.length = o + (vs.length + 1) by omega]
      simp
    rw [e1] at h1
    exact h1
theorem chg_setCells {g : Nat} : ∀ (vs : List Value) (o : Nat) (w : World), Chg [g] w (w.setCells g o vs)
  | [], o, w => Chg.refl _ _
  | v :: vs, o, w => ((Chg.refl [g] w).setCell (p := ⟨g, o, none⟩) (.inl (by simp)) v).trans (chg_setCells vs (o + 1) _) (fun k hk => .inl hk)
section
variable {P : Program} {w : World} {ops : Array Oper} {rest : List Oper} {o : Oper} {a : Act} {Q : Exit → Act → World → Prop}
/-- clear, of a slice that the program made itself, of elements of one cell. -/
theorem wpList_clear {t e : TypeId} {z : Value} (ht : P.underlying t = some (.slice e)) (hv : ∀ w, (zeroValue e).run P w = .ok z w) (hz : z.cells = #[z]) (h1 : z.oneCell' = true) (hgd : o.guard = none) (s : Operand) (ho : o.op = .call { callee := .builtin .clear, args := #[s], argTypes := #[t] })
    {g n c : Nat} {xs : List Value} (hs : a.eval s = .slice (some ⟨g, 0, none⟩) n c) (hn : 0 < n) (hown : Own w e 1 (.slice (some ⟨g, 0, none⟩) n c) n xs)
    (h : ∀ w', Own w' e 1 (.slice (some ⟨g, 0, none⟩) n c) n (List.replicate n z) → Chg [g] w w' → wpList P ops Q rest (a.put o.dst (.tuple #[])) w') : wpList P ops Q (o :: rest) a w := by
  have hxl : xs.length = n := by have := hown.1; simpa using this
  have hrun := Lib.run_clear_slice (P := P) w t e o.type z ht hv hz h1 g 0 n c hn (fun j hj => by
    rw [Nat.zero_add, own_cell hown j (u := xs[j]'(by omega)) (List.getElem?_eq_getElem _)]
    rfl) (fun j hj => by rw [Nat.zero_add]; exact own_free hown j)
  refine wpList_plain hgd fun K hK => ?_
  unfold Oper.wp execOp
  simp only [ho, resolve, invoke, builtin, Sem.run_bind, Sem.run_pure, Result.andThen_ok, List.map_toArray, List.map_cons, List.map_nil, hs, hrun]
  refine hK _ _ (h _ ?_ (chg_setCells _ _ _))
  have := own_setCells (List.replicate n z) 0 hown (by simp)
  rw [List.take_zero, List.nil_append, Nat.zero_add, List.length_replicate, List.drop_of_length_le (by omega), List.append_nil] at this
  exact this
end
end Pal
namespace Go.Proofs.Ytjmnmpelbikjjaa
open Go.RowKit Pal Pal.So Pal.Pm
theorem nil_eqlC (w : World) : (binOp .eql 77 (.slice none 0 0) (.slice none 0 0)).run Try.prog w = .ok (.bool true) w := by kernel_rfl
theorem some_eqlC (a : Addr) (n c : Nat) (w : World) : (binOp .eql 77 (.slice (some a) n c) (.slice none 0 0)).run Try.prog w = .ok (.bool false) w := by kernel_rfl
theorem oneCell_encK (D : List (Coin × List Nat)) : ∀ u ∈ encK D, u.oneCell' = true := fun u hu => by
  obtain ⟨x, -, hx⟩ := List.mem_flatMap.1 hu
  simp at hx
  rcases hx with rfl | rfl <;> rfl
set_option maxRecDepth 100000 in
theorem clone_coins {w : World} {a : Addr} {n cap : Nat} {D : List (Coin × List Nat)} (hrd : Rd w 2 (.slice (some a) n cap) D.length (encK D)) (hl : D.length ≤ 1000000) : Calls Try.prog 48 #[.slice (some a) n cap] w fun e w' =>
    ∃ v', e = .returned v' ∧ Own w' 79 2 v' D.length (encK D) ∧ Chg [] w w' ∧ New w v' := by
  have HRD := Pal.hid hrd
  have hse := some_eqlC
  have ho : Own (w.alloc (.cells #[] 79)) 79 2 (.slice (some ⟨w.heap.size, 0, none⟩) 0 0) 0 [] := World.ownsRow_lit (base := 0) (e := 79) (size := 2) w #[] 0 (Nat.zero_le _) (by decide) rfl
  have ha := (Chg.refl [] w).alloc (.cells #[] 79)
  have hr := HRD.out.keep ha (by simp)
  clear hrd
  go_enter Try.func48, Try.ntmps48
  go_wp2_with (at_builtin; refine wpList_app slCoin rfl _ _ rfl rfl rfl ho hr (oneCell_encK D) (by omega) (by unfold maxLen; omega) ?_; rintro v' w' h1 h2 h3)
  go_ret
  have h2' : Chg [w.heap.size] (w.alloc (.cells #[] 79)) w' := h2
  have h3' : v'.ownBlock = some w.heap.size ∨ v'.ownBlock = some (w.alloc (.cells #[] 79)).heap.size := h3
  refine ⟨v', rfl, by simpa using h1, ha.trans h2' (fun k hk => by simp at hk; omega), fun k hk => ?_⟩
  rcases h3' with h3 | h3
  · rw [h3] at hk
    have : w.heap.size = k := by simpa using hk
    omega
  · rw [h3] at hk
    have : (w.alloc (.cells #[] 79)).heap.size = k := by simpa using hk
    simp at this
    omega
/-- The comparison of coins. -/
theorem cmpC_run {w : World} (x y : Coin) : Calls Try.prog 46 #[.agg #[b64 x.n, .slice x.ao x.len x.cap], .agg #[b64 y.n, .slice y.ao y.len y.cap]] w fun e w' => ∃ r : Int, e = .returned (z64 r) ∧ (r < 0 ↔ (x.n : Int) < (y.n : Int)) ∧ Chg [] w w' := by
  obtain ⟨a, b, c, d⟩ := x
  obtain ⟨a2, b2, c2, d2⟩ := y
  by_cases h1 : a < a2
  · have h1i : (a : Int) < a2 := by omega
    go_enter Try.func46, Try.ntmps46
    go_wp2_with fail
    go_ret
    exact ⟨-1, rfl, by first | (simp; done) | (simp; omega), ((Chg.refl _ _).alloc _).alloc _⟩
  · have h1i : ¬ (a : Int) < a2 := by omega
    by_cases h2 : a2 < a
    · have h2i : (a2 : Int) < a := by omega
      go_enter Try.func46, Try.ntmps46
      go_wp2_with fail
      go_ret
      exact ⟨1, rfl, by first | (simp; done) | (simp; omega), ((Chg.refl _ _).alloc _).alloc _⟩
    · have h2i : ¬ (a2 : Int) < a := by omega
      go_enter Try.func46, Try.ntmps46
      go_wp2_with fail
      go_ret
      exact ⟨0, rfl, by first | (simp; done) | (simp; omega), ((Chg.refl _ _).alloc _).alloc _⟩
theorem cmpC_of (w : World) (g B : Nat) : CmpC w g B (fun x => (x.n : Int)) (fun _ => True) := fun wx _ x y _ _ => cmpC_run x.1 y.1
/-! ### Sorted coins -/
def numK (D : List (Coin × List Nat)) : List ((Coin × List Nat) × Nat) := D.zipIdx
theorem encC_num (E : List ((Coin × List Nat) × Nat)) : encC (E.map fun e => (e.1.1, e.2)) = encK (E.map Prod.fst) := by
  simp [encC, encK, List.flatMap_map]
/-- A sorted list of coins with their symbols. -/
def SortedK (E : List ((Coin × List Nat) × Nat)) : Prop := Sorted (fun x : Coin × List Nat => (x.1.n : Int)) E
theorem sort_coins {w : World} {g n cap : Nat} {D : List (Coin × List Nat)} (ho : Own w 79 2 (.slice (some ⟨g, 0, none⟩) n cap) n (encK D)) (hn : D.length = n) (hl : n ≤ 1000000) :
    Calls Try.prog 47 #[.slice (some ⟨g, 0, none⟩) n cap, .func (.func 46) #[] #[]] w fun e w' => e = .returned (.tuple #[]) ∧
      ∃ E : List ((Coin × List Nat) × Nat), E.Perm D.zipIdx ∧ SortedK E ∧ Own w' 79 2 (.slice (some ⟨g, 0, none⟩) n cap) n (encK (E.map Prod.fst)) ∧ Chg [g] w w' := by
  have e0 : encC ((D.zipIdx).map fun e => (e.1.1, e.2)) = encK D := by rw [encC_num, List.zipIdx_map_fst]
  have hs : SlC w g n cap ((D.zipIdx).map fun e => (e.1.1, e.2)) := ⟨by simpa using hn, by rw [e0]; exact ho⟩
  have ht : Tags ((D.zipIdx).map fun e => (e.1.1, e.2)) := by
    unfold Tags
    rw [List.pairwise_map]
    have : ∀ (D : List (Coin × List Nat)) (i : Nat), (D.zipIdx i).Pairwise fun x y => x.2 < y.2 := fun D => by
      induction D with
      | nil => intro i; simp
      | cons x D ih =>
        intro i
        rw [List.zipIdx_cons]
        refine List.pairwise_cons.2 ⟨fun y hy => ?_, ih (i + 1)⟩
        have := List.le_snd_of_mem_zipIdx hy
        show i < y.2
        omega
    exact this D 0
  refine (sortStableC (B := 0) (cmpC_of w g 0) hs (fun _ _ => trivial) ht hl).mono ?_
  rintro e w' ⟨rfl, D', hp, hsd, hsl, hc⟩
  obtain ⟨E, hE, hEm⟩ := perm_lift hp (D.zipIdx) rfl
  refine ⟨rfl, E, hE, ?_, ?_, hc⟩
  · unfold SortedK Sorted
    unfold Sorted at hsd
    rw [← hEm, List.pairwise_map] at hsd
    exact hsd
  · have h5 := hsl.2
    rw [← hEm, encC_num] at h5
    exact h5
end Go.Proofs.Ytjmnmpelbikjjaa

namespace Pal.Pm
open Pal Pal.Hm
theorem rowC_syms {b : List CC} (h1 : ∀ x ∈ b, x.2.length ≤ 1) : ∀ k, ∀ x ∈ rowC b k, x.2.length ≤ 2 ^ k := by
  have hpr : ∀ (B : Nat) (r : List CC), (∀ x ∈ r, x.2.length ≤ B) → ∀ x ∈ pairsC r, x.2.length ≤ B * 2 := fun B r => by
    fun_induction pairsC r with
    | case1 a c r ih =>
      intro h x hx
      rcases List.mem_cons.1 hx with rfl | hx
      · have := h a (by simp)
        have := h c (by simp)
        rw [List.length_append]
        omega
      · exact ih (fun y hy => h y (by simp [hy])) x hx
    | case2 => intro _ x hx; simp at hx
  intro k
  induction k with
  | zero => exact h1
  | succ k ih =>
    intro x hx
    rw [Nat.pow_succ]
    rcases List.mem_append.1 ((mrg_perm b (pairsC (rowC b k))).mem_iff.1 hx) with hx | hx
    · have := h1 x hx
      have := Nat.two_pow_pos k
      omega
    · exact hpr _ _ ih x hx
/-- The coins' symbols. -/
theorem coin_syms {cs : List Nat} {CB : List CC} (h : CB.Perm ((leavesAt 0 cs).map fun t => (t.cnt, t.syms))) : ∃ F : List Tr, F.Perm (leavesAt 0 cs) ∧ CB = F.map (fun t => (t.cnt, t.syms)) ∧ CB.map Prod.snd = (F.map sy).map (fun s => [s]) ∧ CB.map Prod.fst = F.map Tr.cnt := by
  obtain ⟨F, h1, h2⟩ := perm_lift h (leavesAt 0 cs) rfl
  refine ⟨F, h1, h2.symm, ?_, ?_⟩
  · rw [← h2, List.map_map, List.map_map]
    refine List.map_congr_left fun t ht => ?_
    obtain ⟨n, s, rfl, -⟩ := leavesAt_mem cs 0 t (h1.mem_iff.1 ht)
    rfl
  · rw [← h2, List.map_map]
    rfl
theorem coin_below {cs : List Nat} {CB : List CC} (h : CB.Perm ((leavesAt 0 cs).map fun t => (t.cnt, t.syms))) (k : Nat) : ∀ x ∈ rowC CB k, ∀ s ∈ x.2, s < cs.length := by
  obtain ⟨F, h1, h2, h3, -⟩ := coin_syms h
  intro x hx s hs
  have := mem_taken h3 k x hx s hs
  obtain ⟨t, ht, rfl⟩ := List.mem_map.1 this
  obtain ⟨n, s, rfl, -, h5, -⟩ := leavesAt_mem cs 0 t (h1.mem_iff.1 ht)
  rw [Nat.zero_add] at h5
  exact h5
/-- Lengths that the coins tell. -/
def CoinL (cs : List Nat) (most : Nat) (l : List Nat) : Prop := 2 ≤ (leavesAt 0 cs).length ∧ (leavesAt 0 cs).length ≤ 2 ^ most ∧ ∃ CB : List CC, CB.Perm ((leavesAt 0 cs).map fun t => (t.cnt, t.syms)) ∧ Up (CB.map Prod.fst) ∧ l.length = cs.length ∧ ∀ s, l.getD s 0 = (taken CB (most - 1) (2 * CB.length - 2)).count s
end Pal.Pm
namespace Go.Proofs.Ytjmnmpelbikjjaa
open Go.RowKit Pal Pal.So Pal.Hp Pal.Pm
theorem Ck.far {w w' : World} {X S : List Nat} {D : List (Coin × List Nat)} (h : Ck w X D) (hc : Chg S w w') (hS : ∀ k ∈ S, w.heap.size ≤ k) : Ck w' X D := fun x hx => by
  obtain ⟨h1, h2⟩ := h x hx
  exact ⟨h1.keep hc (fun k hk hm => by have := (h2 k hk).2; have := hS k hm; omega), fun k hk => ⟨(h2 k hk).1, Nat.lt_of_lt_of_le (h2 k hk).2 hc.size⟩⟩
theorem Ck.sub {w : World} {X Y : List Nat} {D E : List (Coin × List Nat)} (h : Ck w X D) (hE : ∀ x ∈ E, x ∈ D) (hY : ∀ k ∈ Y, k ∈ X) : Ck w Y E := fun x hx => by
  obtain ⟨h1, h2⟩ := h x (hE x hx)
  exact ⟨h1, fun k hk => ⟨fun hm => (h2 k hk).1 (hY k hm), (h2 k hk).2⟩⟩
theorem encK_at : ∀ {D : List (Coin × List Nat)} {j : Nat} {x : Coin × List Nat}, D[j]? = some x → (encK D)[j * 2]? = some (b64 x.1.n) ∧ (encK D)[j * 2 + 1]? = some (.slice x.1.ao x.1.len x.1.cap)
  | [], _, _, h => by simp at h
  | y :: D, 0, x, h => by
    obtain rfl : y = x := by simpa using h
    exact ⟨rfl, rfl⟩
  | y :: D, j + 1, x, h => by
    have := encK_at (D := D) (j := j) (x := x) (by simpa using h)
    rw [show (j + 1) * 2 = j * 2 + 1 + 1 by omega]
    exact this
theorem concat_two {w : World} {x y sv : Value} {xs ys : List Nat} (hx : Rd w 1 x xs.length (zL xs)) (hy : Rd w 1 y ys.length (zL ys)) (hsv : Rd w 1 sv 2 [x, y]) (hl : xs.length + ys.length ≤ 1000000) :
    Calls Try.prog 49 #[sv] w fun e w' => ∃ v, e = .returned v ∧ Own w' 3 1 v (xs ++ ys).length (zL (xs ++ ys)) ∧ Chg [] w w' ∧ New w v := by
  have hfl : flatN [(x, xs), (y, ys)] 2 = xs ++ ys := by simp [flatN]
  have h := concatI_any [(x, xs), (y, ys)] sv w hsv (fun z hz => by
    simp at hz
    rcases hz with rfl | rfl
    · exact hx
    · exact hy) (by rw [show ([(x, xs), (y, ys)] : List (Value × List Nat)).length = 2 from rfl, hfl, List.length_append]; exact hl) (by simp)
  rw [show ([(x, xs), (y, ys)] : List (Value × List Nat)).length = 2 from rfl, hfl] at h
  exact h
/-- While rows are made. -/
structure Lo (W w : World) (G n cap : Nat) (l : List Nat) (bv rv : Value) (DB DR : List (Coin × List Nat)) : Prop where
  lown : Own w 3 1 (.slice (some ⟨G, 0, none⟩) n cap) n (zL l)
  bown : Own w 79 2 bv DB.length (encK DB)
  rown : Own w 79 2 rv DR.length (encK DR)
  bck : Ck w [G] DB
  rck : Ck w [G] DR
  ng : W.heap.size ≤ G
  bg : bv.ownBlock ≠ some G
  rg : rv.ownBlock ≠ some G
  nb : New W bv
  nr : New W rv
  chg : Chg [] W w
theorem Lo.move {W w w' : World} {S : List Nat} {G n cap : Nat} {l : List Nat} {bv rv : Value} {DB DR : List (Coin × List Nat)} (h : Lo W w G n cap l bv rv DB DR) (hc : Chg S w w') (hS : ∀ k ∈ S, w.heap.size ≤ k) : Lo W w' G n cap l bv rv DB DR :=
  ⟨hc.owns h.lown (fun k hk hm => by have := own_lt h.lown hk; have := hS k hm; omega), hc.owns h.bown (fun k hk hm => by have := own_lt h.bown hk; have := hS k hm; omega), hc.owns h.rown (fun k hk hm => by have := own_lt h.rown hk; have := hS k hm; omega),
    h.bck.far hc hS, h.rck.far hc hS, h.ng, h.bg, h.rg, h.nb, h.nr, h.chg.trans hc (fun k hk => .inr (Nat.le_trans h.chg.size (hS k hk)))⟩
/-- While a row is made. -/
structure Li (w0 w : World) (G : Nat) (nv : Value) (DN : List (Coin × List Nat)) : Prop where
  own : Own w 79 2 nv DN.length (encK DN)
  ck : Ck w (G :: nv.ownBlock.toList) DN
  new : New w0 nv
  chg : Chg [] w0 w
  gl : G < w0.heap.size
theorem Lo.li {W w0 w : World} {G n cap : Nat} {l : List Nat} {bv rv nv : Value} {DB DR : List (Coin × List Nat)} (h : Lo W w0 G n cap l bv rv DB DR) (ho : Own w 79 2 nv DB.length (encK DB)) (hc : Chg [] w0 w) (hn : New w0 nv) : Li w0 w G nv DB :=
  ⟨ho, (h.bck.mono (Y := G :: nv.ownBlock.toList) (fun k hk => by
    simp at hk
    rcases hk with rfl | hk
    · left; simp
    · right; exact hn k hk)).keep hc (by simp), hn, hc, own_lt h.lown rfl⟩
theorem Li.more {w0 w w1 w2 w3 : World} {G N len cap : Nat} {ao : Option Addr} {S : List Nat} {nv v' : Value} {DN : List (Coin × List Nat)} (h : Li w0 w G nv DN)
    (c1 : Chg [] w w1) (hv : Own w1 3 1 (.slice ao len cap) len (zL S)) (hnew : New w (.slice ao len cap))
    (e2 : w2 = w1.alloc (.cells #[b64 N, .slice ao len cap] 79))
    (ho : Own w3 79 2 v' (DN.length + 1) (encK DN ++ [b64 N, .slice ao len cap])) (hc : Chg nv.ownBlock.toList w2 w3) (hat : v'.ownBlock = nv.ownBlock ∨ v'.ownBlock = some w2.heap.size) :
    Li w0 w3 G v' (DN ++ [(⟨N, ao, len, cap⟩, S)]) := by
  have c2 : Chg [] w w2 := by rw [e2]; exact c1.alloc _
  have hs2 : w2.heap.size = w1.heap.size + 1 := by rw [e2]; simp
  have hG : G < w.heap.size := Nat.lt_of_lt_of_le h.gl h.chg.size
  have hbl : ∀ k, nv.ownBlock = some k → k < w.heap.size := fun k hk => own_lt h.own hk
  have c3 : Chg nv.ownBlock.toList w w3 := (c2.mono (T := nv.ownBlock.toList) (by simp)).trans hc (fun k hk => .inl hk)
  have hv2 : ∀ k, v'.ownBlock = some k → nv.ownBlock = some k ∨ k = w2.heap.size := fun k hk => by
    rcases hat with e | e
    · rw [e] at hk; exact .inl hk
    · rw [e] at hk; right; simpa using hk.symm
  have hs1 := c1.size
  refine ⟨?_, ?_, ?_, ?_, h.gl⟩
  · rw [List.length_append, encK_append]
    exact ho
  · intro x hx
    rcases List.mem_append.1 hx with hx | hx
    · refine h.ck.move c3 (fun k hk => by simp at hk ⊢; exact .inr hk) (fun k hk => ?_) x hx
      simp at hk
      rcases hk with rfl | hk
      · left; simp
      · rcases hv2 k hk with h5 | h5
        · left; simp [h5]
        · right; omega
    · obtain rfl : x = _ := by simpa using hx
      have hsl : ∀ k, slBlock (.slice ao len cap) = some k → w.heap.size ≤ k ∧ k < w1.heap.size := fun k hk => by
        rcases own_shape hv with ⟨e, -, -⟩ | ⟨g, cp, e, -, -, hg⟩
        · simp only [Value.slice.injEq] at e
          obtain ⟨rfl, -, -⟩ := e
          simp [slBlock] at hk
        · simp only [Value.slice.injEq] at e
          obtain ⟨rfl, -, -⟩ := e
          obtain rfl : g = k := by simpa [slBlock] using hk
          exact ⟨hnew g rfl, hg⟩
      have hr1 : Rd w2 1 (.slice ao len cap) len (zL S) := hv.rd.keep (by rw [e2]; exact (Chg.refl [] w1).alloc _) (by simp)
      refine ⟨hr1.keep hc (fun k hk hm => ?_), fun k hk => ⟨fun hm => ?_, ?_⟩⟩
      · have := (hsl k hk).1
        have := hbl k (by simpa using hm)
        omega
      · have h6 := hsl k hk
        simp at hm
        rcases hm with hm | hm
        · omega
        · rcases hv2 k hm with h5 | h5
          · have := hbl k h5; omega
          · omega
      · have := (hsl k hk).2
        have := hc.size
        omega
  · intro k hk
    rcases hv2 k hk with h5 | h5
    · exact h.new k h5
    · have := h.chg.size
      omega
  · exact h.chg.trans c3 (fun k hk => .inr (h.new k (by simpa using hk)))
/-- The next row stands. -/
theorem Lo.next {W w0 w w' : World} {G n cap g gc : Nat} {l : List Nat} {bv rv : Value} {DB DR DN E : List (Coin × List Nat)} (h : Lo W w0 G n cap l bv rv DB DR) (hi : Li w0 w G (.slice (some ⟨g, 0, none⟩) DN.length gc) DN) (ho : Own w' 79 2 (.slice (some ⟨g, 0, none⟩) DN.length gc) DN.length (encK E)) (hE : E.Perm DN) (hc : Chg [g] w w') :
    Lo W w' G n cap l bv (.slice (some ⟨g, 0, none⟩) DN.length gc) DB E := by
  have hg : w0.heap.size ≤ g := hi.new g rfl
  have c : Chg [g] w0 w' := (hi.chg.mono (T := [g]) (by simp)).trans hc (fun k hk => .inl hk)
  have h2 := h.move c (fun k hk => by simp at hk; omega)
  have hGl := own_lt h.lown (k := G) rfl
  refine ⟨h2.lown, h2.bown, by rw [hE.length_eq]; exact ho, h2.bck, ?_, h.ng, h.bg, by simp [Value.ownBlock]; omega, h.nb, fun k hk => ?_, h2.chg⟩
  · refine ((hi.ck.keep hc (fun k hk => by simp at hk ⊢; simp [Value.ownBlock, hk])).sub (fun x hx => hE.mem_iff.1 hx) (fun k hk => by simp at hk ⊢; simp [hk]))
  · obtain rfl : g = k := by simpa [Value.ownBlock] using hk
    have := h.chg.size
    omega
/-- The first row stands. -/
theorem Lf.lo {W w w' : World} {G n cap g gc : Nat} {l : List Nat} {D E : List (Coin × List Nat)} (h : Lf W w G n cap l (.slice (some ⟨g, 0, none⟩) D.length gc) D) (ho : Own w' 79 2 (.slice (some ⟨g, 0, none⟩) D.length gc) D.length (encK E)) (hE : E.Perm D) (hc : Chg [g] w w') :
    Lo W w' G n cap l (.slice (some ⟨g, 0, none⟩) D.length gc) (.slice (some ⟨g, 0, none⟩) D.length gc) E E := by
  have hgG : g ≠ G := fun e => h.bg (by rw [e]; rfl)
  have hck : Ck w' [G] E := (h.ck.keep hc (fun k hk => by simp at hk ⊢; simp [Value.ownBlock, hk])).sub (fun x hx => hE.mem_iff.1 hx) (fun k hk => by simp at hk ⊢; simp [hk])
  exact ⟨hc.owns h.lown (fun k hk => by simp [Value.ownBlock] at hk; subst hk; simp; omega), by rw [hE.length_eq]; exact ho, by rw [hE.length_eq]; exact ho, hck, hck, h.ng, h.bg, h.bg, h.nb, h.nb, h.chg.trans hc (fun k hk => .inr (by simp at hk; rw [hk]; exact h.nb g rfl))⟩
end Go.Proofs.Ytjmnmpelbikjjaa

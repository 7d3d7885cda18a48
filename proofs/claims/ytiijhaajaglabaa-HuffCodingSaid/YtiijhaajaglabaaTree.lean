/- Trees: plain; in memory; lay. -/
import Derived.Test.YtiijhaajaglabaaHeapG
set_option linter.unusedVariables false
namespace Pal
/-- A symbol with its count, or two trees. -/
inductive Tr where
  | leaf (n s : Nat)
  | node (a b : Tr)
namespace Tr
def cnt : Tr → Nat
  | leaf n _ => n
  | node a b => a.cnt + b.cnt
def lay : Tr → Nat → List Nat → List Nat
  | leaf _ s, d, l => l.set s d
  | node a b, d, l => b.lay (d + 1) (a.lay (d + 1) l)
def syms : Tr → List Nat
  | leaf _ s => [s]
  | node a b => a.syms ++ b.syms
def size : Tr → Nat
  | leaf _ _ => 1
  | node a b => a.size + b.size
theorem length_lay : ∀ (t : Tr) (d : Nat) (l : List Nat), (t.lay d l).length = l.length
  | leaf _ _, d, l => by simp [lay]
  | node a b, d, l => by rw [lay, length_lay b, length_lay a]
theorem size_pos : ∀ t : Tr, 0 < t.size
  | leaf _ _ => Nat.one_pos
  | node a b => by have := size_pos a; simp [size]; omega
end Tr
end Pal
namespace Go.Proofs.Ytiijhaajaglabaa
open Go.RowKit Pal Pal.Hp
/-- A tree in memory, none of its blocks in S. -/
def Tm (w : World) (S : List Nat) : Tr → Nat → Prop
  | .leaf n s, x => x ∉ S ∧ w.heap[x]? = some (.cells #[b64 n, z64 s, .pointer none, .pointer none] 104 (0, 0))
  | .node a b, x => x ∉ S ∧ ∃ y z, w.heap[x]? = some (.cells #[b64 (a.cnt + b.cnt : Nat), z64 0, tp y, tp z] 104 (0, 0)) ∧ Tm w S a y ∧ Tm w S b z
theorem Tm.keep {S S0 : List Nat} {w w' : World} (hc : Chg S0 w w') (hS : ∀ k ∈ S0, k ∈ S) : ∀ {t : Tr} {x : Nat}, Tm w S t x → Tm w' S t x
  | .leaf n s, x, h => ⟨h.1, hc.heap h.2 (fun hk => h.1 (hS _ hk))⟩
  | .node a b, x, h => by
    obtain ⟨h1, y, z, h2, h3, h4⟩ := h
    exact ⟨h1, y, z, hc.heap h2 (fun hk => h1 (hS _ hk)), Tm.keep hc hS h3, Tm.keep hc hS h4⟩
theorem Tm.mono {S S' : List Nat} {w : World} (hS : ∀ k ∈ S', k ∈ S ∨ w.heap.size ≤ k) : ∀ {t : Tr} {x : Nat}, Tm w S t x → Tm w S' t x
  | .leaf n s, x, h => ⟨fun hk => (hS x hk).elim h.1 (fun hl => by have := lt_heap h.2; omega), h.2⟩
  | .node a b, x, h => by
    obtain ⟨h1, y, z, h2, h3, h4⟩ := h
    exact ⟨fun hk => (hS x hk).elim h1 (fun hl => by have := lt_heap h2; omega), y, z, h2, Tm.mono hS h3, Tm.mono hS h4⟩
theorem Tm.lt {S : List Nat} {w : World} : ∀ {t : Tr} {x : Nat}, Tm w S t x → x < w.heap.size
  | .leaf _ _, x, h => lt_heap h.2
  | .node _ _, x, h => by obtain ⟨h1, y, z, h2, h3, h4⟩ := h; exact lt_heap h2
theorem Tm.out {S : List Nat} {w : World} : ∀ {t : Tr} {x : Nat}, Tm w S t x → x ∉ S
  | .leaf _ _, x, h => h.1
  | .node _ _, x, h => h.1
theorem Tm.cnt {S : List Nat} {w : World} : ∀ {t : Tr} {x : Nat}, Tm w S t x → w.cell? ⟨x, 0, none⟩ = some (b64 t.cnt)
  | .leaf _ _, x, h => (cell_at h.2).trans rfl
  | .node _ _, x, h => by obtain ⟨h1, y, z, h2, h3, h4⟩ := h; exact (cell_at h2).trans rfl
/-- Lengths in memory, of the program's own. -/
abbrev zL (l : List Nat) : List Value := l.map fun n => z64 ((n : Nat) : Int)
abbrev OwnZ (w : World) (v : Value) (l : List Nat) : Prop := Own w 3 1 v l.length (zL l)
set_option maxHeartbeats 2000000 in
theorem lay_any : ∀ (t : Tr) {w : World} {S : List Nat} {x G n cap : Nat} {l : List Nat} (d : Nat), Tm w S t x → Own w 3 1 (.slice (some ⟨G, 0, none⟩) n cap) n (zL l) → G ∈ S → (∀ s ∈ t.syms, s < n) → d + t.size ≤ 1000000 → n ≤ 1000000 →
    Calls Try.prog 64 #[tp x, .slice (some ⟨G, 0, none⟩) n cap, z64 d] w fun e w' => e = .returned (.tuple #[]) ∧ Own w' 3 1 (.slice (some ⟨G, 0, none⟩) n cap) n (zL (t.lay d l)) ∧ Chg [G] w w'
  | .leaf m s, w, S, x, G, n, cap, l, d, hT, hO, hG, hs, hd, hn => by
    have c2 := cell_at (i := 2) hT.2
    have c1 := cell_at (i := 1) hT.2
    simp at c1 c2
    have hsn : s < n := hs s (by simp [Tr.syms])
    have hll : l.length = n := by have := hO.1; simpa using this
    have hcs := own_cell hO s (u := z64 ((l.getD s 0 : Nat) : Int)) (by rw [map_at (by omega)])
    have hfs := own_free hO s
    have hgl := own_lt hO rfl
    have HF : Hid (Own (w.setCell ⟨G, s, none⟩ (z64 d)) 3 1 (.slice (some ⟨G, 0, none⟩) n cap) n (zL ((Tr.leaf m s).lay d l))) := Pal.hid (by
      rw [Tr.lay]
      show Own _ _ _ _ _ (List.map _ _)
      rw [List.map_set]
      exact own_set hO s _)
    have HC : Hid (Chg [G] w (w.setCell ⟨G, s, none⟩ (z64 d))) := Pal.hid ((Chg.refl [G] w).setCell (p := ⟨G, s, none⟩) (.inl (by simp)) _)
    have hsi : (s : Int) < n := by omega
    clear hT hO hs hll
    go_enter Try.func64, Try.ntmps64
    go_wp2_with fail
    trace_state
    (try simp only [Exit.inBlock, Exit.then]); refine bodyPost_ret (results_none rfl _ _ _) rfl ?_
    exact ⟨rfl, HF.out, HC.out⟩
  | .node a b, w, S, x, G, n, cap, l, d, hT, hO, hG, hs, hd, hn => by
    obtain ⟨h1, y, z, h2, h3, h4⟩ := hT
    have c2 := cell_at (i := 2) h2
    simp at c2
    have hsz := Tr.size_pos a
    have hsz2 := Tr.size_pos b
    have HD : Hid (d + 1 + a.size ≤ 1000000 ∧ d + 1 + b.size ≤ 1000000) := Pal.hid (by simp only [Tr.size] at hd; omega)
    have HA := Pal.hid (lay_any a (d + 1) h3 hO hG (fun s h => hs s (by simp [Tr.syms, h])) HD.out.1 hn)
    have H2 := Pal.hid h2
    have H4 := Pal.hid h4
    have HG := Pal.hid hG
    have HX : Hid (x ≠ G) := Pal.hid (fun e => h1 (e ▸ hG))
    have HS : Hid (∀ s ∈ b.syms, s < n) := Pal.hid fun s h => hs s (by simp [Tr.syms, h])
    obtain ⟨d1, hd1⟩ : ∃ d1, d1 = d + 1 := ⟨_, rfl⟩
    have hw1 : IntKind.i64.wrap ((d : Int) + 1) = (d1 : Int) := by
      rw [show (d : Int) + 1 = (d1 : Int) by omega]
      have := HD.out.1
      exact IntWalk.i64_in _ (by omega)
    rw [← hd1] at HA HD
    have HLAY : Hid ((Tr.node a b).lay d l = b.lay d1 (a.lay d1 l)) := Pal.hid (by rw [Tr.lay, hd1])
    clear h1 h2 h3 h4 hO hG hs hd hd1
    go_enter Try.func64, Try.ntmps64
    go_wp2_with fail
    refine HA.out.mono ?_
    rintro e w2 ⟨rfl, ho2, hc2⟩
    have hx2 := cell_at (i := 3) (hc2.heap H2.out (by have := HX.out; simpa using this))
    simp at hx2
    have HB := Pal.hid (lay_any b d1 (H4.out.keep hc2 (by have := HG.out; simpa using this)) ho2 HG.out HS.out HD.out.2 hn)
    have HC2 := Pal.hid hc2
    clear ho2 hc2 c2
    go_wp2_with fail
    refine HB.out.mono ?_
    rintro e w3 ⟨rfl, ho3, hc3⟩
    have HO3 := Pal.hid ho3
    have HC3 := Pal.hid (HC2.out.trans hc3 (fun k hk => .inl hk))
    clear ho3 hc3
    go_wp2_with fail
    go_end0
    exact ⟨rfl, by rw [HLAY.out]; exact HO3.out, HC3.out⟩
end Go.Proofs.Ytiijhaajaglabaa

/- A heap of trees: Len, Less, Swap. -/
import Derived.Test.YtjmnmpelbikjjaaHeapA
set_option linter.unusedVariables false
namespace Go.Proofs.Ytjmnmpelbikjjaa
open Go.RowKit Pal Pal.Hp
/-- A tree's value. -/
abbrev tp (x : Nat) : Value := .pointer (some ⟨x, 0, none⟩)
abbrev slT (g n cap : Nat) : Value := .slice (some ⟨g, 0, none⟩) n cap
/-- The list of trees in memory: its variable, its elements. -/
structure Hb (w : World) (p g cap : Nat) (L : List Nat) : Prop where
  box : w.heap[p]? = some (.cells #[slT g L.length cap] 86 (0, 0))
  own : Own w 87 1 (slT g L.length cap) L.length (L.map tp)
  ne : p ≠ g
/-- The trees' counts. -/
def Tc (w : World) (p g : Nat) (c : Nat → Nat) (L : List Nat) : Prop := ∀ x ∈ L, x ≠ p ∧ x ≠ g ∧ w.cell? ⟨x, 0, none⟩ = some (b64 (c x))
theorem Hb.keep {S : List Nat} {w w' : World} {p g cap : Nat} {L : List Nat} (h : Hb w p g cap L) (hc : Chg S w w') (hp : p ∉ S) (hg : g ∉ S) : Hb w' p g cap L :=
  ⟨hc.heap h.box hp, hc.owns h.own (fun k hk => by simp [Value.ownBlock] at hk; subst hk; exact hg), h.ne⟩
theorem Hb.cellp {w : World} {p g cap : Nat} {L : List Nat} (h : Hb w p g cap L) : w.cell? ⟨p, 0, none⟩ = some (slT g L.length cap) := (cell_at h.box).trans rfl
theorem Hb.cell {w : World} {p g cap : Nat} {L : List Nat} (h : Hb w p g cap L) {i : Nat} (hi : i < L.length) : w.cell? ⟨g, i, none⟩ = some (tp (L.getD i 0)) := own_cell h.own i (by rw [map_at hi])
theorem Hb.le {w : World} {p g cap : Nat} {L : List Nat} (h : Hb w p g cap L) : L.length ≤ cap ∧ cap ≤ maxLen := by
  rcases own_shape h.own with ⟨h1, -, -⟩ | ⟨g', cap', h1, h2, h3, -⟩
  · cases h1
  · cases h1
    exact ⟨h2, h3⟩
theorem Hb.swap {w : World} {p g cap : Nat} {L : List Nat} (h : Hb w p g cap L) (i j : Nat) : Hb ((w.setCell ⟨g, i, none⟩ (tp (L.getD j 0))).setCell ⟨g, j, none⟩ (tp (L.getD i 0))) p g cap (sL i j L) := by
  refine ⟨?_, ?_, h.ne⟩
  · rw [length_sL]
    exact heap_set_far (heap_set_far h.box h.ne) h.ne
  · rw [length_sL]
    have := own_set (own_set h.own i (tp (L.getD j 0))) j (tp (L.getD i 0))
    unfold sL
    rw [List.map_set, List.map_set]
    exact this
theorem Tc.keep {S : List Nat} {w w' : World} {p g : Nat} {c : Nat → Nat} {L L' : List Nat} (h : Tc w p g c L) (hc : Chg S w w') (hS : ∀ k ∈ S, k = p ∨ k = g) (hL : ∀ x ∈ L', x ∈ L) : Tc w' p g c L' := fun x hx => by
  obtain ⟨h1, h2, h3⟩ := h x (hL x hx)
  exact ⟨h1, h2, hc.cell h3 (fun hk => by rcases hS _ hk with e | e <;> simp_all)⟩
theorem Hb.load {w : World} {p g cap : Nat} {L : List Nat} (h : Hb w p g cap L) : (loadVar 86 ⟨p, 0, none⟩).run Try.prog w = .ok (slT g L.length cap) w := load_ts rfl h.cellp
theorem Hb.mLen {w : World} {p g cap : Nat} {L : List Nat} (h : Hb w p g cap L) : ∀ k, Sem.run Try.prog (method (k + 1) 91 (tp p) "Len") w = .ok (109, slT g L.length cap) w := fun k => meth_deref w rowLen undTs _ _ h.load _
theorem Hb.mLess {w : World} {p g cap : Nat} {L : List Nat} (h : Hb w p g cap L) : ∀ k, Sem.run Try.prog (method (k + 1) 91 (tp p) "Less") w = .ok (110, slT g L.length cap) w := fun k => meth_deref w rowLess undTs _ _ h.load _
theorem Hb.mSwap {w : World} {p g cap : Nat} {L : List Nat} (h : Hb w p g cap L) : ∀ k, Sem.run Try.prog (method (k + 1) 91 (tp p) "Swap") w = .ok (111, slT g L.length cap) w := fun k => meth_deref w rowSwap undTs _ _ h.load _
theorem mPop (w : World) (p : Nat) : ∀ k, Sem.run Try.prog (method (k + 1) 91 (tp p) "Pop") w = .ok (113, tp p) w := fun k => meth_ptr w rowPop undTs _ _
theorem mPush (w : World) (p : Nat) : ∀ k, Sem.run Try.prog (method (k + 1) 91 (tp p) "Push") w = .ok (114, tp p) w := fun k => meth_ptr w rowPush undTs _ _

theorem len_ts (w : World) (g n cap : Nat) : Calls Try.prog 109 #[slT g n cap] w fun e w' => e = .returned (z64 n) ∧ w' = w := by
  go_enter Try.func109, Try.ntmps109
  go_wp2_with fail
  go_ret
  exact ⟨rfl, rfl⟩
theorem under_ts (w : World) (v : Value) (x y a b : Nat) (hx : w.cell? ⟨x, 0, none⟩ = some (b64 a)) (hy : w.cell? ⟨y, 0, none⟩ = some (b64 b)) :
    Calls Try.prog 112 #[v, tp x, tp y] w fun e w' => e = .returned (.bool (decide (a < b))) ∧ ∃ n, w' = w.drewN n := by
  go_enter Try.func112, Try.ntmps112
  go_wp2_with fail
  go_quiet (fail)
  go_wp2_with fail
  go_ret
  exact ⟨by simp, _, rfl⟩
theorem less_ts {w : World} {p g cap : Nat} {L : List Nat} {c : Nat → Nat} (h : Hb w p g cap L) (ht : Tc w p g c L) (i j : Nat) (hi : i < L.length) (hj : j < L.length) :
    Calls Try.prog 110 #[slT g L.length cap, z64 i, z64 j] w fun e w' => e = .returned (.bool (decide (c (L.getD i 0) < c (L.getD j 0)))) ∧ ∃ n, w' = w.drewN n := by
  have ci := h.cell hi
  have cj := h.cell hj
  have hmi : L.getD i 0 ∈ L := by rw [List.getD_eq_getElem?_getD, List.getElem?_eq_getElem hi]; exact List.getElem_mem hi
  have hmj : L.getD j 0 ∈ L := by rw [List.getD_eq_getElem?_getD, List.getElem?_eq_getElem hj]; exact List.getElem_mem hj
  have hx := (ht _ hmi).2.2
  have hy := (ht _ hmj).2.2
  have hii : (i : Int) < L.length := by omega
  have hji : (j : Int) < L.length := by omega
  generalize L.getD i 0 = x at *
  generalize L.getD j 0 = y at *
  generalize L.length = n at *
  have HUN := Pal.hid (fun (m : Nat) => under_ts (w.drewN m) (slT g n cap) x y (c x) (c y) hx hy)
  clear h ht hx hy hmi hmj
  generalize c x = a at *
  generalize c y = b at *
  go_enter Try.func110, Try.ntmps110
  go_wp2_with fail
  go_quiet (first | (go_at_call 112; refine (HUN.out _).mono ?_; rintro e w' ⟨rfl, n, rfl⟩; exact ⟨rfl, _, World.drewN_drewN _ _ _⟩))
  go_wp2_with fail
  go_ret
  exact ⟨rfl, _, rfl⟩
theorem swap_ts {w : World} {p g cap : Nat} {L : List Nat} (h : Hb w p g cap L) (i j : Nat) (hij : i ≠ j) (hi : i < L.length) (hj : j < L.length) :
    Calls Try.prog 111 #[slT g L.length cap, z64 i, z64 j] w fun e w' => e = .returned (.tuple #[]) ∧ Hb w' p g cap (sL i j L) ∧ Chg [g] w w' := by
  have HS : Hid (Hb ((w.setCell ⟨g, i, none⟩ (tp (L.getD j 0))).setCell ⟨g, j, none⟩ (tp (L.getD i 0))) p g cap (sL i j L)) := Pal.hid (h.swap i j)
  have HC : Hid (Chg [g] w ((w.setCell ⟨g, i, none⟩ (tp (L.getD j 0))).setCell ⟨g, j, none⟩ (tp (L.getD i 0)))) := Pal.hid (((Chg.refl [g] w).setCell (p := ⟨g, i, none⟩) (.inl (by simp)) _).setCell (p := ⟨g, j, none⟩) (.inl (by simp)) _)
  have ci := h.cell hi
  have cj := h.cell hj
  have fi : w.frozen? ⟨g, i, none⟩ = false := own_free h.own i
  have fj : w.frozen? ⟨g, j, none⟩ = false := own_free h.own j
  have hgl : g < w.heap.size := own_lt h.own rfl
  have hii : (i : Int) < L.length := by omega
  have hji : (j : Int) < L.length := by omega
  clear h hi hj
  generalize sL i j L = L' at *
  generalize L.getD i 0 = x at *
  generalize L.getD j 0 = y at *
  generalize L.length = n at *
  clear L
  go_enter Try.func111, Try.ntmps111
  go_wp2_with fail
  go_region
  go_end0
  exact ⟨rfl, HS.out.keep (Chg.refl [] _).drew (by simp) (by simp), HC.out.drew⟩
end Go.Proofs.Ytjmnmpelbikjjaa

/- Two lists that the program makes itself, apart from each other and from a set of blocks; a list cut by its last. No walk. -/
import Derived.Test.YtiijhaajaglabaaBase
set_option linter.unusedVariables false
namespace Pal
open Go Go.RowKit

theorem own_cut {w : World} {e : TypeId} {ao : Option Addr} {n cap : Nat} {xs : List Value} {x : Value} (h : Own w e 1 (.slice ao (n + 1) cap) (n + 1) (xs ++ [x])) : Own w e 1 (.slice ao n cap) n xs := by
  obtain ⟨h1, h2⟩ := h
  have hl : xs.length = n := by simpa using h1
  refine ⟨by simpa using hl, ?_⟩
  rcases h2 with ⟨h2, _⟩ | ⟨g, c, cur, h3, hb, hg, hn, hc, hs, ht⟩
  · simp at h2
  · refine .inr ⟨g, c, cur, ?_, hb, hg, by omega, hc, hs, ?_⟩
    · simp only [Value.slice.injEq] at h3 ⊢
      exact ⟨h3.1, trivial, h3.2.2⟩
    · have h4 := congrArg (List.take n) ht
      rw [List.take_take, List.take_left' hl] at h4
      rw [← h4]
      congr 1
      omega

structure Shelf (e1 e2 : TypeId) (W w : World) (F : List Nat) (lv : Value) (n : Nat) (xs : List Value) (kv : Value) (m : Nat) (ys : List Value) : Prop where
  l : Own w e1 1 lv n xs
  k : Own w e2 1 kv m ys
  nl : New W lv
  nk : New W kv
  lk : ∀ b, lv.ownBlock = some b → kv.ownBlock ≠ some b
  lw : ∀ b, lv.ownBlock = some b → b ∉ F
  kw : ∀ b, kv.ownBlock = some b → b ∉ F
  lt : ∀ b ∈ F, b < w.heap.size
  chg : Chg [] W w

section
variable {e1 e2 : TypeId} {W w w' : World} {F F' S : List Nat} {n m : Nat} {lv kv : Value} {xs ys : List Value}

theorem Shelf.step (h : Shelf e1 e2 W w F lv n xs kv m ys) (hc : Chg S w w') (hS : ∀ k ∈ S, k ∈ F ∨ w.heap.size ≤ k) (hN : ∀ k ∈ S, W.heap.size ≤ k) (hF : ∀ b ∈ F', b ∈ F ∨ (w.heap.size ≤ b ∧ b < w'.heap.size)) : Shelf e1 e2 W w' F' lv n xs kv m ys := by
  have hl : ∀ k, lv.ownBlock = some k → k ∉ S := fun k hk hk' => by
    rcases hS k hk' with h1 | h1
    · exact h.lw k hk h1
    · have := own_lt h.l hk; omega
  have hkk : ∀ k, kv.ownBlock = some k → k ∉ S := fun k hk hk' => by
    rcases hS k hk' with h1 | h1
    · exact h.kw k hk h1
    · have := own_lt h.k hk; omega
  refine ⟨hc.owns h.l hl, hc.owns h.k hkk, h.nl, h.nk, h.lk, ?_, ?_, ?_, h.chg.trans hc fun k hk => .inr (hN k hk)⟩
  · intro b hb hb'
    rcases hF b hb' with h1 | h1
    · exact h.lw b hb h1
    · have := own_lt h.l hb; omega
  · intro b hb hb'
    rcases hF b hb' with h1 | h1
    · exact h.kw b hb h1
    · have := own_lt h.k hb; omega
  · intro b hb
    rcases hF b hb with h1 | h1
    · exact Nat.lt_of_lt_of_le (h.lt b h1) hc.size
    · exact h1.2

theorem Shelf.still (h : Shelf e1 e2 W w F lv n xs kv m ys) (hc : Chg [] w w') : Shelf e1 e2 W w' F lv n xs kv m ys :=
  h.step hc (by simp) (by simp) (fun b hb => .inl hb)

theorem Shelf.appL {lv' : Value} {n' : Nat} {xs' : List Value} (h : Shelf e1 e2 W w F lv n xs kv m ys) (ho : Own w' e1 1 lv' n' xs') (hc : Chg lv.ownBlock.toList w w') (hat : lv'.ownBlock = lv.ownBlock ∨ lv'.ownBlock = some w.heap.size) :
    Shelf e1 e2 W w' F lv' n' xs' kv m ys := by
  refine ⟨ho, hc.owns h.k (fun b hb hb' => h.lk b (by simpa using hb') hb), h.nl.app hat h.chg.size, h.nk, ?_, ?_, h.kw, fun b hb => Nat.lt_of_lt_of_le (h.lt b hb) hc.size, h.chg.onto h.nl hc⟩
  · intro b hb hk
    rcases hat with e | e
    · exact h.lk b (e ▸ hb) hk
    · have := own_lt h.k hk
      rw [e] at hb
      simp at hb
      omega
  · intro b hb hk
    rcases hat with e | e
    · exact h.lw b (e ▸ hb) hk
    · have := h.lt b hk
      rw [e] at hb
      simp at hb
      omega

theorem Shelf.appK {kv' : Value} {m' : Nat} {ys' : List Value} (h : Shelf e1 e2 W w F lv n xs kv m ys) (ho : Own w' e2 1 kv' m' ys') (hc : Chg kv.ownBlock.toList w w') (hat : kv'.ownBlock = kv.ownBlock ∨ kv'.ownBlock = some w.heap.size) :
    Shelf e1 e2 W w' F lv n xs kv' m' ys' := by
  refine ⟨hc.owns h.l (fun b hb hb' => h.lk b hb (by simpa using hb')), ho, h.nl, h.nk.app hat h.chg.size, ?_, h.lw, ?_, fun b hb => Nat.lt_of_lt_of_le (h.lt b hb) hc.size, h.chg.onto h.nk hc⟩
  · intro b hb hk
    rcases hat with e | e
    · exact h.lk b hb (e ▸ hk)
    · have := own_lt h.l hb
      rw [e] at hk
      simp at hk
      omega
  · intro b hb hk
    rcases hat with e | e
    · exact h.kw b (e ▸ hb) hk
    · have := h.lt b hk
      rw [e] at hb
      simp at hb
      omega

theorem Shelf.start {W w : World} {F : List Nat} (hc : Chg [] W w) (lt : ∀ b ∈ F, b < w.heap.size) (e1 e2 : TypeId) : Shelf e1 e2 W w F (.slice none 0 0) 0 [] (.slice none 0 0) 0 [] :=
  ⟨own_nil _ _ _, own_nil _ _ _, New.nil _, New.nil _, (fun b hb => by cases hb), (fun b hb => by cases hb), (fun b hb => by cases hb), lt, hc⟩
end
end Pal

/- RegionsPlay: what the main needs beside. RegionsPlay: what was put aside. RegionsPlay: what holds between two calls of the script. RegionsPlay: one more is put aside. -/
import Derived.Test.YtlmablpekedcfaaRgPu
import Derived.Test.YtlmablpekedcfaaShelf
set_option linter.unusedVariables false
namespace Go.Proofs.Ytlmablpekedcfaa
open Go.RowKit Pal Pal.Rg

set_option maxRecDepth 100000 in
theorem same_rn {w : World} {p b : Nat} {L : List Reg} (h : Rs w p b L) : Calls Try.prog 21 #[.pointer (some ⟨p, 0, none⟩), .pointer none] w fun e w' => e = .returned (.bool false) ∧ w = w' := by
  have HN := Pal.hid (none_rg h)
  have HG := Pal.hid (none_nn (w := w) (v := .pointer none) (.inl rfl))
  go_enter Try.func21, Try.ntmps21
  go_wp2_with fail
  refine HN.out.mono ?_
  rintro e w' ⟨rfl, rfl⟩
  go_wp2_with fail
  refine HG.out.mono ?_
  rintro e w' ⟨rfl, rfl⟩
  go_wp2_with fail
  refine HN.out.mono ?_
  rintro e w' ⟨rfl, rfl⟩
  go_wp2_with fail
  go_ret
  exact ⟨rfl, rfl⟩
theorem slPtr : SlT Try.prog 64 26 1 8 := slT_of (z := .pointer none) Try.underlying64 (by kernel_rfl) rfl (by decide)
theorem slDoc : SlT Try.prog 65 63 1 24 := slT_of (z := .agg #[.slice none 0 0]) Try.underlying65 (by kernel_rfl) rfl (by decide)
end Go.Proofs.Ytlmablpekedcfaa

namespace Go.Proofs.Ytlmablpekedcfaa
open Go.RowKit Pal Pal.Rg

/-- Regions put aside: the program's, and the document's list. -/
structure Aside where
  p : Nat
  b : Nat
  c : Nat
  v : Value
  L : List Reg
def AsideOk (w : World) (F : List Nat) (o : Aside) : Prop := Rs w o.p o.b o.L ∧ Rd w 3 o.v o.L.length (regC o.L) ∧ (∀ k, slBlock o.v = some k → k = o.c) ∧ o.c < w.heap.size ∧ o.p ∉ F ∧ o.b ∉ F ∧ o.c ∉ F
theorem AsideOk.keep {w w' : World} {S F F' : List Nat} {o : Aside} (h : AsideOk w F o) (hc : Chg S w w') (hS : ∀ k ∈ S, k ∈ F ∨ w.heap.size ≤ k) (hF : ∀ k ∈ F', k ∈ F ∨ w.heap.size ≤ k) : AsideOk w' F' o := by
  obtain ⟨h1, h2, h3, h4, h5, h6, h7⟩ := h
  have l1 := h1.lt
  have l2 := h1.blt
  have nS : ∀ k, k < w.heap.size → k ∉ F → k ∉ S := fun k hk hf hs => by rcases hS k hs with h | h; exact hf h; omega
  have nF : ∀ k, k < w.heap.size → k ∉ F → k ∉ F' := fun k hk hf hs => by rcases hF k hs with h | h; exact hf h; omega
  exact ⟨h1.keep hc (nS _ l1 h5) (nS _ l2 h6), h2.keep hc (fun k hk => by rw [h3 k hk]; exact nS _ h4 h7), h3, Nat.lt_of_lt_of_le h4 hc.size, nF _ l1 h5, nF _ l2 h6, nF _ h4 h7⟩
end Go.Proofs.Ytlmablpekedcfaa

namespace Go.Proofs.Ytlmablpekedcfaa
open Go.RowKit Pal Pal.Rg

def blks (p b q c : Nat) (hs : List Aside) : List Nat := p :: b :: q :: c :: hs.flatMap fun o => [o.p, o.b, o.c]
abbrev ptrs (hs : List Aside) : List Value := hs.map fun o => .pointer (some ⟨o.p, 0, none⟩)
abbrev vals (hs : List Aside) : List Value := hs.map (·.v)
structure Play (W w : World) (p b q c : Nat) (L : List Reg) (ov av : Value) (hs : List Aside) : Prop where
  two : Two w p b q c L
  old : ∀ o ∈ hs, AsideOk w [p, q] o
  sh : Shelf 26 63 W w (blks p b q c hs) ov hs.length (ptrs hs) av hs.length (vals hs)
  pn : W.heap.size ≤ p
  qn : W.heap.size ≤ q
theorem Play.still {W w w' : World} {p b q c : Nat} {L : List Reg} {ov av : Value} {hs : List Aside} (h : Play W w p b q c L ov av hs) (hc : Chg [] w w') : Play W w' p b q c L ov av hs :=
  ⟨h.two.keep hc (by simp) (by simp) (by simp) (by simp), fun o ho => (h.old o ho).keep hc (by simp) (fun k hk => .inl hk), h.sh.still hc, h.pn, h.qn⟩
theorem Play.step {W w w' : World} {p b q c b' c' : Nat} {L L' : List Reg} {ov av : Value} {hs : List Aside} (h : Play W w p b q c L ov av hs) (ht : Two w' p b' q c' L') (hc : Chg [p, q] w w') (hb : b' = b ∨ w.heap.size ≤ b') (hcc : c' = c ∨ w.heap.size ≤ c') : Play W w' p b' q c' L' ov av hs := by
  refine ⟨ht, fun o ho => (h.old o ho).keep hc (fun k hk => .inl hk) (fun k hk => .inl hk), h.sh.step hc ?_ ?_ ?_, h.pn, h.qn⟩
  · intro k hk
    simp at hk
    rcases hk with rfl | rfl <;> exact .inl (by simp [blks])
  · intro k hk
    simp at hk
    rcases hk with rfl | rfl
    · exact h.pn
    · exact h.qn
  · have hl := ht.lt
    intro k hk
    simp only [blks, List.mem_cons] at hk ⊢
    rcases hk with rfl | rfl | rfl | rfl | hk
    · exact .inl (.inl rfl)
    · rcases hb with rfl | hb
      · exact .inl (.inr (.inl rfl))
      · exact .inr ⟨hb, hl.2.1⟩
    · exact .inl (.inr (.inr (.inl rfl)))
    · rcases hcc with rfl | hcc
      · exact .inl (.inr (.inr (.inr (.inl rfl))))
      · exact .inr ⟨hcc, hl.2.2.2⟩
    · exact .inl (.inr (.inr (.inr (.inr hk))))
end Go.Proofs.Ytlmablpekedcfaa

namespace Go.Proofs.Ytlmablpekedcfaa
open Go.RowKit Pal Pal.Rg

/-- Behind both appends. -/
theorem Play.mid {W w w1 w2 w3 w4 : World} {p b q c : Nat} {L : List Reg} {ov av ov' av' : Value} {xs ys : List Value} {n m : Nat} {hs : List Aside} (h : Play W w p b q c L ov av hs)
    (a1 : Chg [] w w1) (o1 : Pal.Own w2 26 1 ov' n xs) (c1 : Chg ov.ownBlock.toList w1 w2) (t1 : ov'.ownBlock = ov.ownBlock ∨ ov'.ownBlock = some w1.heap.size)
    (a2 : Chg [] w2 w3) (o2 : Pal.Own w4 63 1 av' m ys) (c2 : Chg av.ownBlock.toList w3 w4) (t2 : av'.ownBlock = av.ownBlock ∨ av'.ownBlock = some w3.heap.size) :
    Rs w4 p b L ∧ Pal.Own w4 26 1 ov' n xs := by
  have s1 := h.sh.still a1
  have s2 := s1.appL o1 c1 t1
  have s3 := s2.still a2
  have s4 := s3.appK o2 c2 t2
  have hx : Chg (ov.ownBlock.toList ++ av.ownBlock.toList) w w4 := by
    have e1 : Chg (ov.ownBlock.toList ++ av.ownBlock.toList) w w2 := (a1.mono (by simp)).trans c1 (fun k hk => .inl (List.mem_append_left _ hk))
    exact (e1.trans a2 (by simp)).trans c2 (fun k hk => .inl (List.mem_append_right _ hk))
  have nx : ∀ k, k ∈ blks p b q c hs → k ∉ ov.ownBlock.toList ++ av.ownBlock.toList := fun k hk hm => by
    rcases List.mem_append.1 hm with h1 | h1
    · exact h.sh.lw k (by simpa using h1) hk
    · exact h.sh.kw k (by simpa using h1) hk
  exact ⟨h.two.rs.keep hx (nx _ (by simp [blks])) (nx _ (by simp [blks])), s4.l⟩
/-- Behind the first append: the list of pointers holds one more. -/
theorem Play.aside {W w w1 w2 w3 w4 w5 : World} {p b q c p' b' : Nat} {L : List Reg} {ov av ov' av' sv : Value} {hs : List Aside} (h : Play W w p b q c L ov av hs)
    (a1 : Chg [] w w1) (o1 : Pal.Own w2 26 1 ov' (hs.length + 1) (ptrs hs ++ [.pointer (some ⟨p, 0, none⟩)])) (c1 : Chg ov.ownBlock.toList w1 w2) (t1 : ov'.ownBlock = ov.ownBlock ∨ ov'.ownBlock = some w1.heap.size)
    (a2 : Chg [] w2 w3) (o2 : Pal.Own w4 63 1 av' (hs.length + 1) (vals hs ++ [sv])) (c2 : Chg av.ownBlock.toList w3 w4) (t2 : av'.ownBlock = av.ownBlock ∨ av'.ownBlock = some w3.heap.size)
    (hsv : Rd w 3 sv L.length (regC L)) (hat : SlAt sv c q) (c5 : Chg [] w4 w5) (r5 : Rs w5 p' b' L) (hp : w4.heap.size ≤ p') (hb : w4.heap.size ≤ b') :
    Play W w5 p' b' q c L ov' av' (hs ++ [⟨p, b, if slBlock sv = none then p else c, sv, L⟩]) := by
  have s1 := h.sh.still a1
  have s2 := s1.appL o1 c1 t1
  have s3 := s2.still a2
  have s4 := s3.appK o2 c2 t2
  have hl := h.two.lt
  have g1 := a1.size
  have g2 := c1.size
  have g3 := a2.size
  have g4 := c2.size
  have g5 := c5.size
  -- what the appends may have changed is none of the blocks
  have n1 : ∀ k, k ∈ blks p b q c hs → k ∉ ov.ownBlock.toList := fun k hk hm => h.sh.lw k (by simpa using hm) hk
  have n2 : ∀ k, k ∈ blks p b q c hs → k ∉ av.ownBlock.toList := fun k hk hm => h.sh.kw k (by simpa using hm) hk
  have hx : Chg (ov.ownBlock.toList ++ av.ownBlock.toList) w w5 := by
    have e1 : Chg (ov.ownBlock.toList ++ av.ownBlock.toList) w w2 := (a1.mono (by simp)).trans c1 (fun k hk => .inl (List.mem_append_left _ hk))
    have e2 := (e1.trans a2 (by simp)).trans c2 (fun k hk => .inl (List.mem_append_right _ hk))
    exact e2.trans c5 (by simp)
  have nx : ∀ k, k ∈ blks p b q c hs → k ∉ ov.ownBlock.toList ++ av.ownBlock.toList := fun k hk hm => by
    rcases List.mem_append.1 hm with h1 | h1
    · exact n1 k hk h1
    · exact n2 k hk h1
  have mp : p ∈ blks p b q c hs := by simp [blks]
  have mb : b ∈ blks p b q c hs := by simp [blks]
  have mq : q ∈ blks p b q c hs := by simp [blks]
  have mc : c ∈ blks p b q c hs := by simp [blks]
  have hbx := h.two.bx.keep hx (nx _ mq) (nx _ mc)
  have hrs := h.two.rs.keep hx (nx _ mp) (nx _ mb)
  have hcq : ∀ k, slBlock sv = some k → k = c ∧ k ≠ q := hat.blk
  have hsv5 := hsv.keep hx (fun k hk => by rw [(hcq k hk).1]; exact nx _ mc)
  have hpq := h.two.pq
  have hqb := h.two.qb
  have hco : ∀ o ∈ hs, ∀ k ∈ [o.p, o.b, o.c], k ∈ blks p b q c hs := fun o ho k hk => by
    simp only [blks, List.mem_cons, List.mem_flatMap]
    exact .inr (.inr (.inr (.inr ⟨o, ho, by simpa using hk⟩)))
  have hnc : (if slBlock sv = none then p else c) ∈ blks p b q c hs := by split; exact mp; exact mc
  refine ⟨⟨r5, hbx, by omega, by omega, by omega⟩, ?_, ?_, Nat.le_trans h.sh.chg.size (by omega), h.qn⟩
  · intro o ho
    rcases List.mem_append.1 ho with ho | ho
    · obtain ⟨h1, h2, h3, h4, h5, h6, h7⟩ := h.old o ho
      have i1 := hco o ho o.p (by simp)
      have i2 := hco o ho o.b (by simp)
      have i3 := hco o ho o.c (by simp)
      have j1 := h1.lt
      have j2 := h1.blt
      simp only [List.mem_cons, List.not_mem_nil, or_false, not_or] at h5 h6 h7
      refine ⟨h1.keep hx (nx _ i1) (nx _ i2), h2.keep hx (fun k hk => by rw [h3 k hk]; exact nx _ i3), h3, by omega, ?_, ?_, ?_⟩ <;> simp only [List.mem_cons, List.not_mem_nil, or_false, not_or] <;> omega
    · obtain rfl : o = _ := by simpa using ho
      refine ⟨hrs, hsv5, ?_, ?_, ?_, ?_, ?_⟩
      · intro k hk
        have hn : ¬ slBlock sv = none := by rw [hk]; simp
        dsimp only
        rw [if_neg hn]
        exact (hcq k hk).1
      · dsimp only
        split <;> omega
      · simp only [List.mem_cons, List.not_mem_nil, or_false, not_or]; omega
      · simp only [List.mem_cons, List.not_mem_nil, or_false, not_or]; omega
      · dsimp only
        simp only [List.mem_cons, List.not_mem_nil, or_false, not_or]
        split
        · omega
        · rename_i hn
          obtain ⟨k, hk⟩ := Option.ne_none_iff_exists'.1 hn
          have := hcq k hk
          omega
  · have s5 := s4.step (F' := blks p' b' q c (hs ++ [⟨p, b, if slBlock sv = none then p else c, sv, L⟩])) c5 (by simp) (by simp) (fun k hk => by
      simp only [blks, List.mem_cons, List.flatMap_append, List.mem_append] at hk
      have i1 := r5.lt
      have i2 := r5.blt
      rcases hk with rfl | rfl | rfl | rfl | hk | hk
      · exact .inr ⟨hp, i1⟩
      · exact .inr ⟨hb, i2⟩
      · exact .inl mq
      · exact .inl mc
      · obtain ⟨o, ho, hk⟩ := List.mem_flatMap.1 hk
        exact .inl (hco o ho k hk)
      · simp at hk
        rcases hk with rfl | rfl | rfl
        · exact .inl mp
        · exact .inl mb
        · exact .inl hnc)
    simpa [ptrs, vals] using s5
end Go.Proofs.Ytlmablpekedcfaa

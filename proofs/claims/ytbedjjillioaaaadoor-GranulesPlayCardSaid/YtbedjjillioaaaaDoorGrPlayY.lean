/- GranulesPlay: what holds between two calls of the script. -/
import Derived.Test.YtbedjjillioaaaaDoorGrStepA
import Derived.Test.YtbedjjillioaaaaDoorGrNil
set_option linter.unusedVariables false
namespace Go.Proofs.YtbedjjillioaaaaDoor
open Go.RowKit Pal Pal.Gr

theorem slPair : SlT Tryd.prog 70 69 2 16 := slT_of (z := .agg #[.pointer none, .pointer none]) Tryd.underlying70 (by kernel_rfl) rfl (by decide)

/-- A map put aside, with the document's. -/
structure Aside where
  p : Nat
  b : Nat
  q : Nat
  c : Nat
  size : Nat
  gran : Nat
  vs : List Nat
abbrev Aside.bl (o : Aside) : List Nat := [o.p, o.b, o.q, o.c]
def AsideOk (w : World) (F : List Nat) (o : Aside) : Prop := Gm w o.p o.b o.size o.gran o.vs ∧ Dw w o.q o.c o.size o.gran o.vs ∧ o.p ∉ F ∧ o.b ∉ F ∧ o.q ∉ F ∧ o.c ∉ F
theorem AsideOk.lt {w : World} {F : List Nat} {o : Aside} (h : AsideOk w F o) : ∀ k ∈ o.bl, k < w.heap.size := fun k hk => by
  obtain ⟨h1, h2, _⟩ := h
  have a := h1.lt
  have b := h1.blt
  have c := h2.lt
  have d := h2.clt
  simp at hk
  rcases hk with rfl | rfl | rfl | rfl <;> omega
theorem AsideOk.keep {w w' : World} {S F F' : List Nat} {o : Aside} (h : AsideOk w F o) (hc : Chg S w w') (hS : ∀ k ∈ o.bl, k ∉ S) (hF : ∀ k ∈ F', k ∈ F ∨ w.heap.size ≤ k) : AsideOk w' F' o := by
  have hl := h.lt
  obtain ⟨h1, h2, h3, h4, h5, h6⟩ := h
  have nF : ∀ k, k < w.heap.size → k ∉ F → k ∉ F' := fun k hk hf hs => by rcases hF k hs with h | h; exact hf h; omega
  exact ⟨h1.keep hc (hS _ (by simp)) (hS _ (by simp)), h2.keep hc (hS _ (by simp)) (hS _ (by simp)), nF _ (hl _ (by simp)) h3, nF _ (hl _ (by simp)) h4, nF _ (hl _ (by simp)) h5, nF _ (hl _ (by simp)) h6⟩

def blks (P p b q c : Nat) (hs : List Aside) : List Nat := P :: p :: b :: q :: c :: hs.flatMap Aside.bl
abbrev prV (o : Aside) : List Value := [.pointer (some ⟨o.p, 0, none⟩), .pointer (some ⟨o.q, 0, none⟩)]
def pairs (hs : List Aside) : List Value := hs.flatMap prV
theorem length_pairs (hs : List Aside) : (pairs hs).length = hs.length * 2 := by
  induction hs with
  | nil => rfl
  | cons s ss ih =>
    rw [pairs, List.flatMap_cons, List.length_append, ← pairs, ih]
    simp
    omega
theorem pairs_at : ∀ (hs : List Aside) (i : Nat) (h : i < hs.length), (pairs hs)[i * 2]? = some (.pointer (some ⟨hs[i].p, 0, none⟩)) ∧ (pairs hs)[i * 2 + 1]? = some (.pointer (some ⟨hs[i].q, 0, none⟩))
  | s :: ss, 0, _ => ⟨rfl, rfl⟩
  | s :: ss, i + 1, h => by
    have := pairs_at ss i (by simpa using h)
    rw [show (i + 1) * 2 = i * 2 + 1 + 1 by omega]
    exact this
theorem pairs_snoc (hs : List Aside) (o : Aside) : pairs (hs ++ [o]) = pairs hs ++ prV o := by simp [pairs]

structure Play (W w : World) (P p b q c size gran : Nat) (ws : List Nat) (ov : Value) (hs : List Aside) : Prop where
  two : Two w P p b q c size gran ws
  old : ∀ o ∈ hs, AsideOk w [P, p, b, q] o
  l : Pal.Own w 69 2 ov hs.length (pairs hs)
  nl : New W ov
  lw : ∀ k, ov.ownBlock = some k → k ∉ blks P p b q c hs
  nn : W.heap.size ≤ P ∧ W.heap.size ≤ p ∧ W.heap.size ≤ b ∧ W.heap.size ≤ q
  chg : Chg [] W w
section
variable {W w w' : World} {P p b q c size gran : Nat} {ws : List Nat} {ov : Value} {hs : List Aside}
theorem Play.still (h : Play W w P p b q c size gran ws ov hs) (hc : Chg [] w w') : Play W w' P p b q c size gran ws ov hs :=
  ⟨h.two.keep hc (by simp) (by simp) (by simp) (by simp) (by simp), fun o ho => (h.old o ho).keep hc (by simp) (fun k hk => .inl hk), hc.owns h.l (by simp), h.nl, h.lw, h.nn, h.chg.trans hc (by simp)⟩
theorem mem_blks {k : Nat} {o : Aside} (ho : o ∈ hs) (hk : k ∈ o.bl) : k ∈ blks P p b q c hs := by
  unfold blks
  exact List.mem_cons_of_mem _ (List.mem_cons_of_mem _ (List.mem_cons_of_mem _ (List.mem_cons_of_mem _ (List.mem_cons_of_mem _ (List.mem_flatMap.2 ⟨o, ho, hk⟩)))))
theorem Play.blt (h : Play W w P p b q c size gran ws ov hs) : ∀ k ∈ blks P p b q c hs, k < w.heap.size := fun k hk => by
  have hl := h.two.lt
  simp only [blks, List.mem_cons, List.mem_flatMap] at hk
  rcases hk with rfl | rfl | rfl | rfl | rfl | ⟨o, ho, hk⟩
  · exact hl.1
  · exact hl.2.1
  · exact hl.2.2.1
  · exact hl.2.2.2.1
  · exact hl.2.2.2.2
  · exact (h.old o ho).lt k (by simpa [Aside.bl] using hk)
theorem Play.step {p' b' q' c' size' gran' : Nat} {ws' : List Nat} (h : Play W w P p b q c size gran ws ov hs) (ht : Two w' P p' b' q' c' size' gran' ws') (hc : Chg [P, p, b, q] w w')
    (hp : p' = p ∨ w.heap.size ≤ p') (hb : b' = b ∨ w.heap.size ≤ b') (hq : q' = q ∨ w.heap.size ≤ q') (hcc : c' = c ∨ w.heap.size ≤ c') : Play W w' P p' b' q' c' size' gran' ws' ov hs := by
  have hn := h.nn
  have hsz := h.chg.size
  refine ⟨ht, fun o ho => ?_, ?_, h.nl, ?_, ?_, h.chg.trans hc ?_⟩
  · have ha := h.old o ho
    refine ha.keep hc (fun k hk => ?_) (fun k hk => ?_)
    · obtain ⟨-, -, a1, a2, a3, a4⟩ := ha
      simp only [Aside.bl, List.mem_cons, List.not_mem_nil, or_false] at hk
      rcases hk with rfl | rfl | rfl | rfl <;> assumption
    · simp at hk ⊢
      omega
  · exact hc.owns h.l (fun k hk hm => h.lw k hk (by simp at hm; simp [blks]; omega))
  · intro k hk hm
    have hkl := own_lt h.l hk
    have h0 := h.lw k hk
    simp only [blks, List.mem_cons, not_or] at h0 hm
    rcases hm with rfl | rfl | rfl | rfl | rfl | hm
    · exact h0.1 rfl
    · rcases hp with e | e
      · exact h0.2.1 e
      · omega
    · rcases hb with e | e
      · exact h0.2.2.1 e
      · omega
    · rcases hq with e | e
      · exact h0.2.2.2.1 e
      · omega
    · rcases hcc with e | e
      · exact h0.2.2.2.2.1 e
      · omega
    · exact h0.2.2.2.2.2 hm
  · omega
  · intro k hk
    simp at hk
    right
    omega
end

/-- The document's map's list, in another box. -/
theorem dw_share {w w1 : World} {q c size gran q2 x : Nat} {D : List Bool} {v : Value} (h : Dm w q c size gran D) (hv : w.heap[q]? = some (.cells #[z64 size, z64 gran, v] 74 (0, 0))) (hc : Chg [] w w1)
    (h2 : w1.heap[q2]? = some (.cells #[z64 size, z64 gran, v] 74 (0, 0))) (hq2 : w.heap.size ≤ q2) (hx : x < w.heap.size) : Dm w1 q2 (if c = q then x else c) size gran D := by
  obtain ⟨v', h1, hrd, hb, hcl, h5⟩ := h
  have e := h1.symm.trans hv
  simp at e
  obtain rfl := e
  refine ⟨v', h2, hrd.keep hc (by simp), fun k hk => ?_, ?_, h5⟩
  · obtain ⟨e1, e2⟩ := hb k hk
    rw [if_neg (by omega)]
    exact ⟨e1, by omega⟩
  · have := hc.size
    split <;> omega

/-- One more is put aside, and it goes on as a copy. -/
theorem Play.aside {W w w2 w3 w4 w5 : World} {P p b q c size gran q2 p4 b4 : Nat} {ws : List Nat} {ov ov' : Value} {hs : List Aside} (h : Play W w P p b q c size gran ws ov hs)
    (c2 : Chg [] w w2) (d2 : Dw w2 q2 (if c = q then p else c) size gran ws) (hq2 : w.heap.size ≤ q2) (hq2l : q2 < w2.heap.size)
    (o3 : Pal.Own w3 69 2 ov' (hs.length + 1) (pairs hs ++ [.pointer (some ⟨p, 0, none⟩), .pointer (some ⟨q2, 0, none⟩)])) (c3 : Chg ov.ownBlock.toList w2 w3) (t3 : ov'.ownBlock = ov.ownBlock ∨ ov'.ownBlock = some w2.heap.size)
    (c4 : Chg [] w3 w4) (g4 : Gm w4 p4 b4 size gran ws) (hp4 : w3.heap.size ≤ p4) (hb4 : w3.heap.size ≤ b4)
    (c5 : Chg [P] w4 w5) (hpr : w5.heap[P]? = some (.cells #[.pointer (some ⟨p4, 0, none⟩), .pointer (some ⟨q, 0, none⟩)] 69 (0, 0))) :
    Play W w5 P p4 b4 q c size gran ws ov' (hs ++ [⟨p, b, q2, if c = q then p else c, size, gran, ws⟩]) := by
  have hl := h.two.lt
  have hne := h.two.ne
  have hn := h.nn
  have s0 := h.chg.size
  have s2 := c2.size
  have s3 := c3.size
  have s4 := c4.size
  have s5 := c5.size
  have hov : ∀ k, ov.ownBlock = some k → k < w.heap.size := fun k hk => own_lt h.l hk
  have c24 : Chg (ov.ownBlock.toList ++ [P]) w2 w5 := (c3.mono (T := ov.ownBlock.toList ++ [P]) (fun k hk => .inl (List.mem_append_left _ hk))).trans ((c4.mono (T := [P]) (by simp)).trans c5 (fun k hk => .inl hk)) (fun k hk => .inl (List.mem_append_right _ hk))
  have cx : Chg (ov.ownBlock.toList ++ [P]) w w5 := (c2.mono (by simp)).trans c24 (fun k hk => .inl hk)
  have nx : ∀ k, k ∈ blks P p b q c hs → k ≠ P → k ∉ ov.ownBlock.toList ++ [P] := fun k hk hkP hm => by
    rcases List.mem_append.1 hm with h1 | h1
    · exact h.lw k (by simpa using h1) hk
    · simp at h1
      exact hkP h1
  have mp : p ∈ blks P p b q c hs := by simp [blks]
  have mb : b ∈ blks P p b q c hs := by simp [blks]
  have mq : q ∈ blks P p b q c hs := by simp [blks]
  have mc : c ∈ blks P p b q c hs := by simp [blks]
  have hce : (if c = q then p else c) ∈ blks P p b q c hs ∧ (if c = q then p else c) ≠ P ∧ (if c = q then p else c) ≠ q ∧ (if c = q then p else c) < w.heap.size := by
    split
    · exact ⟨mp, by omega, by omega, by omega⟩
    · exact ⟨mc, by omega, by omega, by omega⟩
  generalize (if c = q then p else c) = cc at *
  have hov' : ∀ k, ov'.ownBlock = some k → (ov.ownBlock = some k ∨ k = w2.heap.size) := fun k hk => by
    rcases t3 with e | e
    · exact .inl (e ▸ hk)
    · rw [e] at hk
      exact .inr (by simpa using hk.symm)
  have hP4 : P ≠ p4 ∧ P ≠ b4 := by omega
  have hovP : ∀ k, ov'.ownBlock = some k → k ≠ P := fun k hk e => by
    rcases hov' k hk with e1 | e1
    · exact h.lw k e1 (by rw [e]; simp [blks])
    · omega
  refine ⟨⟨hpr, g4.keep c5 (by simp; omega) (by simp; omega), h.two.dw.keep cx (nx _ mq (by omega)) (nx _ mc (by omega)), by omega⟩, fun o ho => ?_, ?_, ?_, ?_, ?_, ?_⟩
  · rcases List.mem_append.1 ho with ho | ho
    · have ha := h.old o ho
      refine ha.keep cx (fun k hk => nx k (mem_blks ho hk) ?_) (fun k hk => ?_)
      · obtain ⟨-, -, a1, a2, a3, a4⟩ := ha
        simp only [List.mem_cons, List.not_mem_nil, or_false, not_or] at a1 a2 a3 a4
        simp only [Aside.bl, List.mem_cons, List.not_mem_nil, or_false] at hk
        rcases hk with rfl | rfl | rfl | rfl
        · exact a1.1
        · exact a2.1
        · exact a3.1
        · exact a4.1
      · simp at hk ⊢
        omega
    · obtain rfl : o = _ := by simpa using ho
      have nq2 : q2 ∉ ov.ownBlock.toList ++ [P] := fun hm => by
        rcases List.mem_append.1 hm with h1 | h1
        · have := hov q2 (by simpa using h1)
          omega
        · simp at h1
          omega
      refine ⟨h.two.gm.keep cx (nx _ mp (by omega)) (nx _ mb (by omega)), d2.keep c24 nq2 (nx _ hce.1 hce.2.1), ?_, ?_, ?_, ?_⟩ <;> simp <;> omega
  · rw [pairs_snoc]
    have : (hs ++ [(⟨p, b, q2, cc, size, gran, ws⟩ : Aside)]).length = hs.length + 1 := by simp
    rw [this]
    exact c5.owns (c4.owns o3 (by simp)) (fun k hk hm => hovP k hk (by simpa using hm))
  · intro k hk
    rcases hov' k hk with e | e
    · exact h.nl k e
    · omega
  · intro k hk hm
    have hkl := own_lt o3 hk
    simp only [blks, List.mem_cons, List.flatMap_append, List.mem_append] at hm
    have hk' := hov' k hk
    have base : k ∈ blks P p b q c hs → False := fun hb => by
      rcases hk' with e | e
      · exact h.lw k e hb
      · have := h.blt k hb
        omega
    rcases hm with rfl | rfl | rfl | rfl | rfl | hm | hm
    · exact base (by simp [blks])
    · omega
    · omega
    · exact base mq
    · exact base mc
    · obtain ⟨o, ho, hk2⟩ := List.mem_flatMap.1 hm
      exact base (mem_blks ho hk2)
    · simp at hm
      rcases hm with rfl | rfl | rfl | rfl
      · exact base mp
      · exact base mb
      · rcases hk' with e | e
        · have := hov k e
          omega
        · omega
      · exact base hce.1
  · omega
  · refine (h.chg.trans c2 (by simp)).trans c24 (fun k hk => ?_)
    right
    rcases List.mem_append.1 hk with h1 | h1
    · exact h.nl k (by simpa using h1)
    · simp at h1
      omega
/-- The pair that was put aside last, or none. -/
def LastOf (hs : List Aside) (mo wo : Value) : Prop := (mo = .pointer none ∧ wo = .pointer none) ∨ ∃ o ∈ hs, mo = .pointer (some ⟨o.p, 0, none⟩) ∧ wo = .pointer (some ⟨o.q, 0, none⟩)
theorem LastOf.old {W w : World} {P p b q c size gran : Nat} {ws : List Nat} {ov : Value} {hs : List Aside} {mo wo : Value} (hl : LastOf hs mo wo) (h : Play W w P p b q c size gran ws ov hs) : Old w P p b q mo wo := by
  rcases hl with ⟨rfl, rfl⟩ | ⟨o, ho, rfl, rfl⟩
  · exact .none
  · obtain ⟨h1, h2, h3, h4, h5, h6⟩ := h.old o ho
    exact .some h1 h2 h3 h4 h5 h6
theorem LastOf.mono {hs hs' : List Aside} {mo wo : Value} (h : LastOf hs mo wo) (hh : ∀ o ∈ hs, o ∈ hs') : LastOf hs' mo wo := by
  rcases h with h | ⟨o, ho, h⟩
  · exact .inl h
  · exact .inr ⟨o, hh o ho, h⟩
end Go.Proofs.YtbedjjillioaaaaDoor

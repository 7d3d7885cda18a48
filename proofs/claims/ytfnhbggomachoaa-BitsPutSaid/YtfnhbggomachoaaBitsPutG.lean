/- What the law BitsPut keeps: a writer and its list, writers and lists that were put aside. No walk. -/
import Derived.Test.YtfnhbggomachoaaBitsPutF
import Derived.Test.YtfnhbggomachoaaBitsBackA
set_option linter.unusedVariables false
namespace Go.Proofs.Ytfnhbggomachoaa
open Go.RowKit Go.ChangeShapes Go.WideShapes Go.ChangeAt Pal

structure Old where
  p : Nat
  g : Option Nat
  L : List Nat
  lv : Value

def oldF (o : Old) : List Nat := wfp o.p o.g ++ (slBlock o.lv).toList
def putF (p : Nat) (g : Option Nat) (lb : Nat) (lv : Value) (olds : List Old) : List Nat := lb :: (wfp p g ++ ((slBlock lv).toList ++ olds.flatMap oldF))

structure OldOk (w : World) (o : Old) : Prop where
  wr : Wr w o.p o.g o.L
  rd : Rd w 1 o.lv o.L.length (o.L.map b8)
  vl : ∀ b, slBlock o.lv = some b → b < w.heap.size
  len : o.L.length ≤ 200000

structure PutSt (W w : World) (p : Nat) (g : Option Nat) (L : List Nat) (lb : Nat) (lv : Value) (olds : List Old) (ov : Value) (n : Nat) (xs : List Value) (wv : Value) (m : Nat) (ys : List Value) : Prop where
  sh : Shelf 27 29 W w (putF p g lb lv olds) ov n xs wv m ys
  pp : PutP w p g L lb lv
  od : ∀ o ∈ olds, OldOk w o
  so : ∀ o ∈ olds, ∀ k ∈ wfp o.p o.g, k ∉ lb :: wfp p g ∧ (∀ b, slBlock lv = some b → b ≠ k) ∧ ∀ o' ∈ olds, ∀ b, slBlock o'.lv = some b → b ≠ k
  sv : ∀ o ∈ olds, ∀ b, slBlock o.lv = some b → b ∉ lb :: wfp p g
  pw : olds.Pairwise fun a b => ∀ k ∈ wfp a.p a.g, k ∉ wfp b.p b.g
  nm : ∀ k ∈ lb :: wfp p g, W.heap.size ≤ k
  no : ∀ o ∈ olds, ∀ k ∈ wfp o.p o.g, W.heap.size ≤ k

section
variable {W w w' : World} {p p' n m lb : Nat} {g g' : Option Nat} {L L' : List Nat} {lv lv' ov wv : Value} {olds : List Old} {xs ys : List Value}

theorem OldOk.keep {S : List Nat} {o : Old} (h : OldOk w o) (hc : Chg S w w') (h1 : ∀ k ∈ wfp o.p o.g, k ∉ S) (h2 : ∀ k, slBlock o.lv = some k → k ∉ S) : OldOk w' o :=
  ⟨h.wr.keep hc h1, h.rd.keep hc h2, fun b hb => Nat.lt_of_lt_of_le (h.vl b hb) hc.size, h.len⟩

theorem mem_putF {k : Nat} : k ∈ putF p g lb lv olds ↔ k = lb ∨ k ∈ wfp p g ∨ slBlock lv = some k ∨ ∃ o ∈ olds, k ∈ wfp o.p o.g ∨ slBlock o.lv = some k := by
  simp [putF, oldF, Option.mem_toList]

theorem PutSt.still (h : PutSt W w p g L lb lv olds ov n xs wv m ys) (hc : Chg [] w w') : PutSt W w' p g L lb lv olds ov n xs wv m ys :=
  ⟨h.sh.still hc, h.pp.still hc, fun o ho => (h.od o ho).keep hc (by simp) (by simp), h.so, h.sv, h.pw, h.nm, h.no⟩

theorem PutP.apart {S : List Nat} (h : PutP w p g L lb lv) (hc : Chg S w w') (h1 : ∀ k ∈ lb :: wfp p g, k ∉ S) (h2 : ∀ k, slBlock lv = some k → k ∉ S) : PutP w' p g L lb lv :=
  ⟨h.wr.keep hc (fun k hk => h1 k (by simp [hk])), hc.heap h.lc (h1 lb (by simp)), h.lr.keep hc h2, h.lw, h.vw, fun b hb => Nat.lt_of_lt_of_le (h.vl b hb) hc.size⟩

theorem PutSt.appO {ov' : Value} {n' : Nat} {xs' : List Value} (h : PutSt W w p g L lb lv olds ov n xs wv m ys) (ho : Own w' 27 1 ov' n' xs') (hc : Chg ov.ownBlock.toList w w') (hat : ov'.ownBlock = ov.ownBlock ∨ ov'.ownBlock = some w.heap.size) :
    PutSt W w' p g L lb lv olds ov' n' xs' wv m ys := by
  have hF : ∀ b ∈ putF p g lb lv olds, b ∉ ov.ownBlock.toList := fun b hb hb' => h.sh.lw b (by simpa using hb') hb
  refine ⟨h.sh.appL ho hc hat, h.pp.apart hc (fun k hk => hF k (mem_putF.2 ?_)) (fun k hk => hF k (mem_putF.2 (.inr (.inr (.inl hk))))), fun o ho' => (h.od o ho').keep hc (fun k hk => hF k (mem_putF.2 (.inr (.inr (.inr ⟨o, ho', .inl hk⟩))))) (fun k hk => hF k (mem_putF.2 (.inr (.inr (.inr ⟨o, ho', .inr hk⟩))))), h.so, h.sv, h.pw, h.nm, h.no⟩
  rcases List.mem_cons.1 hk with e | e
  · exact .inl e
  · exact .inr (.inl e)

theorem PutSt.appW {wv' : Value} {m' : Nat} {ys' : List Value} (h : PutSt W w p g L lb lv olds ov n xs wv m ys) (ho : Own w' 29 1 wv' m' ys') (hc : Chg wv.ownBlock.toList w w') (hat : wv'.ownBlock = wv.ownBlock ∨ wv'.ownBlock = some w.heap.size) :
    PutSt W w' p g L lb lv olds ov n xs wv' m' ys' := by
  have hF : ∀ b ∈ putF p g lb lv olds, b ∉ wv.ownBlock.toList := fun b hb hb' => h.sh.kw b (by simpa using hb') hb
  refine ⟨h.sh.appK ho hc hat, h.pp.apart hc (fun k hk => hF k (mem_putF.2 ?_)) (fun k hk => hF k (mem_putF.2 (.inr (.inr (.inl hk))))), fun o ho' => (h.od o ho').keep hc (fun k hk => hF k (mem_putF.2 (.inr (.inr (.inr ⟨o, ho', .inl hk⟩))))) (fun k hk => hF k (mem_putF.2 (.inr (.inr (.inr ⟨o, ho', .inr hk⟩))))), h.so, h.sv, h.pw, h.nm, h.no⟩
  rcases List.mem_cons.1 hk with e | e
  · exact .inl e
  · exact .inr (.inl e)

theorem PutSt.copy (h : PutSt W w p g L lb lv olds ov n xs wv m ys) (hw : Wr w' p' g' L) (hp : w.heap.size ≤ p') (hg : ∀ b, g' = some b → w.heap.size ≤ b) (hc : Chg [] w w') (hL : L.length ≤ 200000) :
    PutSt W w' p' g' L lb lv (olds ++ [⟨p, g, L, lv⟩]) ov n xs wv m ys := by
  have hlb := lt_heap h.pp.lc
  have new : ∀ k ∈ wfp p' g', w.heap.size ≤ k := fun k hk => by
    rcases mem_wfp.1 hk with rfl | e
    · exact hp
    · exact hg k e
  have old : ∀ o ∈ olds, ∀ k ∈ wfp o.p o.g, k < w.heap.size := fun o ho k hk => (h.od o ho).wr.lt k hk
  have cur : ∀ k ∈ wfp p g, k < w.heap.size := h.pp.wr.lt
  refine ⟨h.sh.step hc (by simp) (by simp) (fun b hb => ?_), ⟨hw, hc.heap h.pp.lc (by simp), h.pp.lr.keep hc (by simp), fun e => ?_, fun b hb => ⟨fun e => ?_, (h.pp.vw b hb).2⟩, fun b hb => Nat.lt_of_lt_of_le (h.pp.vl b hb) hc.size⟩, fun o ho => ?_, fun o ho k hk => ?_, fun o ho b hb => ?_, ?_, fun k hk => ?_, fun o ho k hk => ?_⟩
  · rcases mem_putF.1 hb with e | e | e | ⟨o, ho, e⟩
    · exact .inl (mem_putF.2 (.inl e))
    · exact .inr ⟨new b e, hw.lt b e⟩
    · exact .inl (mem_putF.2 (.inr (.inr (.inl e))))
    · rcases List.mem_append.1 ho with ho | ho
      · exact .inl (mem_putF.2 (.inr (.inr (.inr ⟨o, ho, e⟩))))
      · obtain rfl : o = ⟨p, g, L, lv⟩ := by simpa using ho
        rcases e with e | e
        · exact .inl (mem_putF.2 (.inr (.inl e)))
        · exact .inl (mem_putF.2 (.inr (.inr (.inl e))))
  · have := new lb e; omega
  · have := new b e
    have := h.pp.vl b hb
    omega
  · rcases List.mem_append.1 ho with ho | ho
    · exact (h.od o ho).keep hc (by simp) (by simp)
    · obtain rfl : o = ⟨p, g, L, lv⟩ := by simpa using ho
      exact ⟨h.pp.wr.keep hc (by simp), h.pp.lr.keep hc (by simp), fun b hb => Nat.lt_of_lt_of_le (h.pp.vl b hb) hc.size, hL⟩
  · rcases List.mem_append.1 ho with ho | ho
    · have h1 := h.so o ho k hk
      have h2 := old o ho k hk
      refine ⟨fun e => ?_, h1.2.1, fun o' ho' b hb => ?_⟩
      · rcases List.mem_cons.1 e with e | e
        · exact h1.1 (by simp [e])
        · have := new k e; omega
      · rcases List.mem_append.1 ho' with ho' | ho'
        · exact h1.2.2 o' ho' b hb
        · obtain rfl : o' = ⟨p, g, L, lv⟩ := by simpa using ho'
          exact h1.2.1 b hb
    · obtain rfl : o = ⟨p, g, L, lv⟩ := by simpa using ho
      have h2 := cur k hk
      refine ⟨fun e => ?_, fun b hb e => (h.pp.vw b hb).1 (e ▸ hk), fun o' ho' b hb e => ?_⟩
      · rcases List.mem_cons.1 e with e | e
        · exact h.pp.lw (e ▸ hk)
        · have := new k e; omega
      · rcases List.mem_append.1 ho' with ho' | ho'
        · exact h.sv o' ho' b hb (by simp [e]; exact .inr hk)
        · obtain rfl : o' = ⟨p, g, L, lv⟩ := by simpa using ho'
          exact (h.pp.vw b hb).1 (e ▸ hk)
  · intro e
    rcases List.mem_append.1 ho with ho | ho
    · have h1 := h.sv o ho b hb
      have h2 := (h.od o ho).vl b hb
      rcases List.mem_cons.1 e with e | e
      · exact h1 (by simp [e])
      · have := new b e; omega
    · obtain rfl : o = ⟨p, g, L, lv⟩ := by simpa using ho
      have h2 := h.pp.vl b hb
      rcases List.mem_cons.1 e with e | e
      · exact (h.pp.vw b hb).2 e
      · have := new b e; omega
  · refine List.pairwise_append.2 ⟨h.pw, by simp, fun a ha b hb k hk hk' => ?_⟩
    obtain rfl : b = ⟨p, g, L, lv⟩ := by simpa using hb
    exact (h.so a ha k hk).1 (by simp; exact .inr hk')
  · rcases List.mem_cons.1 hk with e | e
    · exact h.nm k (by simp [e])
    · exact Nat.le_trans h.sh.chg.size (new k e)
  · rcases List.mem_append.1 ho with ho | ho
    · exact h.no o ho k hk
    · obtain rfl : o = ⟨p, g, L, lv⟩ := by simpa using ho
      exact h.nm k (by simp; exact .inr hk)

theorem PutSt.stepped (h : PutSt W w p g L lb lv olds ov n xs wv m ys) (hs : Stepped w w' p g L lb lv) : ∃ g' L' lv', PutSt W w' p g' L' lb lv' olds ov n xs wv m ys ∧ L'.length ≤ L.length + 2464 := by
  obtain ⟨g', L', lv', hp, hm, hc, hat, hlen⟩ := hs
  refine ⟨g', L', lv', ?_, hlen⟩
  have moved : ∀ k, k ∈ lb :: wfp p g' → k ∈ lb :: wfp p g ∨ w.heap.size ≤ k := fun k hk => by
    rcases List.mem_cons.1 hk with e | e
    · exact .inl (by simp [e])
    · rcases mem_wfp.1 e with e | e
      · exact .inl (by simp [mem_wfp, e])
      · rcases hm with rfl | ⟨c, rfl, hc⟩
        · exact .inl (List.mem_cons_of_mem _ (mem_wfp.2 (.inr e)))
        · obtain rfl : c = k := by simpa using e
          exact .inr hc
  have vnew : ∀ b, slBlock lv' = some b → slBlock lv = some b ∨ w.heap.size ≤ b := fun b hb => by
    rcases hat with rfl | e
    · exact .inl hb
    · exact .inr (e b hb)
  have lt' : ∀ k ∈ lb :: wfp p g', k < w'.heap.size := fun k hk => by
    rcases List.mem_cons.1 hk with e | e
    · rw [e]; exact lt_heap hp.lc
    · exact hp.wr.lt k e
  refine ⟨h.sh.step hc (fun k hk => .inl ?_) (fun k hk => h.nm k hk) (fun b hb => ?_), hp, fun o ho => (h.od o ho).keep hc (fun k hk => (h.so o ho k hk).1) (h.sv o ho), fun o ho k hk => ⟨fun e => ?_, fun b hb e => ?_, (h.so o ho k hk).2.2⟩, fun o ho b hb e => ?_, h.pw, fun k hk => ?_, h.no⟩
  · rcases List.mem_cons.1 hk with e | e
    · exact mem_putF.2 (.inl e)
    · exact mem_putF.2 (.inr (.inl e))
  · rcases mem_putF.1 hb with e | e | e | e
    · exact .inl (mem_putF.2 (.inl e))
    · rcases moved b (List.mem_cons_of_mem _ e) with e1 | e1
      · rcases List.mem_cons.1 e1 with e2 | e2
        · exact .inl (mem_putF.2 (.inl e2))
        · exact .inl (mem_putF.2 (.inr (.inl e2)))
      · exact .inr ⟨e1, lt' b (List.mem_cons_of_mem _ e)⟩
    · rcases vnew b e with e1 | e1
      · exact .inl (mem_putF.2 (.inr (.inr (.inl e1))))
      · exact .inr ⟨e1, hp.vl b e⟩
    · exact .inl (mem_putF.2 (.inr (.inr (.inr e))))
  · rcases moved k e with e1 | e1
    · exact (h.so o ho k hk).1 e1
    · have := (h.od o ho).wr.lt k hk; omega
  · rcases vnew b hb with e1 | e1
    · exact (h.so o ho k hk).2.1 b e1 e
    · have := (h.od o ho).wr.lt k hk; omega
  · rcases moved b e with e1 | e1
    · exact h.sv o ho b hb e1
    · have := (h.od o ho).vl b hb; omega
  · rcases moved k hk with e1 | e1
    · exact h.nm k e1
    · exact Nat.le_trans h.sh.chg.size e1
end
end Go.Proofs.Ytfnhbggomachoaa

/- What the law BitsTake keeps: a reader and the document's, readers that were put aside. No walk. -/
import Derived.Test.YtfnhbggomachoaaBitsAskB
import Derived.Test.YtfnhbggomachoaaBitsBackA
import Derived.Test.YtfnhbggomachoaaShelf
import Derived.Deep.SlicePairs
set_option linter.unusedVariables false
namespace Go.Proofs.Ytfnhbggomachoaa
open Go.RowKit Go.ChangeShapes Go.WideShapes Go.ChangeAt Pal

theorem sl_rd : SlT Try.prog 62 51 1 8 := slT_of Try.underlying62 (z := .pointer none) (by kernel_rfl) rfl (by decide)

abbrev pr (p : Nat) : Value := .pointer (some ⟨p, 0, none⟩)

def takeF (p : Nat) (g : Option Nat) (q : Nat) (v : Value) (olds : List (Nat × Nat)) : List Nat := p :: q :: (g.toList ++ (v.ownBlock.toList ++ olds.map (·.1)))

structure TakeSt (W w : World) (p : Nat) (g : Option Nat) (bs : List Nat) (a q : Nat) (ao : Option Addr) (cap : Nat) (olds : List (Nat × Nat)) (ov : Value) (n : Nat) (xs : List Value) (wv : Value) (m : Nat) (ys : List Value) : Prop where
  sh : Shelf 51 3 W w (takeF p g q (.slice ao (bitsOfBytes bs).length cap) olds) ov n xs wv m ys
  pr : Pair w p g bs a q ao cap
  od : ∀ o ∈ olds, Rdr w o.1 g bs o.2
  op : ∀ o ∈ olds, o.1 ≠ p ∧ o.1 ≠ q
  np : W.heap.size ≤ p
  nq : W.heap.size ≤ q

section
variable {W w w' : World} {p q a a' cap n m : Nat} {g : Option Nat} {bs : List Nat} {ao : Option Addr} {olds : List (Nat × Nat)} {ov wv : Value} {xs ys : List Value}

theorem TakeSt.still (h : TakeSt W w p g bs a q ao cap olds ov n xs wv m ys) (hc : Chg [] w w') : TakeSt W w' p g bs a q ao cap olds ov n xs wv m ys :=
  ⟨h.sh.still hc, h.pr.keep hc, fun o ho => (h.od o ho).keep hc (by simp), h.op, h.np, h.nq⟩

theorem TakeSt.gp (h : TakeSt W w p g bs a q ao cap olds ov n xs wv m ys) : g ≠ some p := by
  obtain ⟨_, _, _, _, h1, _⟩ := h.pr.rd
  exact h1

theorem TakeSt.ask (h : TakeSt W w p g bs a q ao cap olds ov n xs wv m ys) (hp : Pair w' p g bs a' q ao cap) (hc : Chg [p, q] w w') : TakeSt W w' p g bs a' q ao cap olds ov n xs wv m ys := by
  refine ⟨h.sh.step hc (fun k hk => .inl ?_) (fun k hk => ?_) (fun b hb => .inl hb), hp, fun o ho => (h.od o ho).keep hc ?_, h.op, h.np, h.nq⟩
  · simp at hk; rcases hk with rfl | rfl <;> simp [takeF]
  · simp at hk; rcases hk with rfl | rfl
    · exact h.np
    · exact h.nq
  · intro k hk hk'
    have h1 := h.op o ho
    rcases mem_wfp.1 hk with rfl | hg
    · simp at hk'; rcases hk' with e | e
      · exact h1.1 e
      · exact h1.2 e
    · simp at hk'; rcases hk' with rfl | rfl
      · exact h.gp hg
      · exact h.pr.pq (mem_wfp.2 (.inr hg))

theorem TakeSt.appO {ov' : Value} {n' : Nat} {xs' : List Value} (h : TakeSt W w p g bs a q ao cap olds ov n xs wv m ys) (ho : Own w' 51 1 ov' n' xs') (hc : Chg ov.ownBlock.toList w w') (hat : ov'.ownBlock = ov.ownBlock ∨ ov'.ownBlock = some w.heap.size) :
    TakeSt W w' p g bs a q ao cap olds ov' n' xs' wv m ys := by
  have hF : ∀ b ∈ takeF p g q (.slice ao (bitsOfBytes bs).length cap) olds, b ∉ ov.ownBlock.toList := fun b hb hb' => h.sh.lw b (by simpa using hb') hb
  refine ⟨h.sh.appL ho hc hat, ⟨h.pr.rd.keep hc (fun k hk => hF k ?_), h.pr.rf.keep hc (hF q (by simp [takeF])) (fun k hk => hF k (by simp [takeF, hk])), h.pr.pq, h.pr.ap⟩, fun o ho' => (h.od o ho').keep hc (fun k hk => hF k ?_), h.op, h.np, h.nq⟩
  · rcases mem_wfp.1 hk with rfl | hg <;> simp [takeF, *]
  · rcases mem_wfp.1 hk with rfl | hg
    · simp only [takeF, List.mem_cons, List.mem_append, List.mem_map]
      exact .inr (.inr (.inr (.inr ⟨o, ho', rfl⟩)))
    · simp [takeF, hg]

theorem TakeSt.appW {wv' : Value} {m' : Nat} {ys' : List Value} (h : TakeSt W w p g bs a q ao cap olds ov n xs wv m ys) (ho : Own w' 3 1 wv' m' ys') (hc : Chg wv.ownBlock.toList w w') (hat : wv'.ownBlock = wv.ownBlock ∨ wv'.ownBlock = some w.heap.size) :
    TakeSt W w' p g bs a q ao cap olds ov n xs wv' m' ys' := by
  have hF : ∀ b ∈ takeF p g q (.slice ao (bitsOfBytes bs).length cap) olds, b ∉ wv.ownBlock.toList := fun b hb hb' => h.sh.kw b (by simpa using hb') hb
  refine ⟨h.sh.appK ho hc hat, ⟨h.pr.rd.keep hc (fun k hk => hF k ?_), h.pr.rf.keep hc (hF q (by simp [takeF])) (fun k hk => hF k (by simp [takeF, hk])), h.pr.pq, h.pr.ap⟩, fun o ho' => (h.od o ho').keep hc (fun k hk => hF k ?_), h.op, h.np, h.nq⟩
  · rcases mem_wfp.1 hk with rfl | hg <;> simp [takeF, *]
  · rcases mem_wfp.1 hk with rfl | hg
    · simp only [takeF, List.mem_cons, List.mem_append, List.mem_map]
      exact .inr (.inr (.inr (.inr ⟨o, ho', rfl⟩)))
    · simp [takeF, hg]

theorem TakeSt.copy {p' : Nat} (h : TakeSt W w p g bs a q ao cap olds ov n xs wv m ys) (hr : Rdr w' p' g bs a) (hp : w.heap.size ≤ p') (hc : Chg [] w w') : TakeSt W w' p' g bs a q ao cap (olds ++ [(p, a)]) ov n xs wv m ys := by
  have hq := lt_heap h.pr.rf.hb
  have hlp : p' < w'.heap.size := hr.lt p' (mem_wfp.2 (.inl rfl))
  have hpl : p < w.heap.size := h.pr.rd.lt p (mem_wfp.2 (.inl rfl))
  refine ⟨h.sh.step hc (by simp) (by simp) (fun b hb => ?_), ⟨hr, h.pr.rf.keep hc (by simp) (by simp), fun hb => ?_, fun k hk hb => ?_⟩, fun o ho => ?_, fun o ho => ?_, Nat.le_trans h.sh.chg.size hp, h.nq⟩
  · simp only [takeF, List.mem_cons, List.mem_append, List.map_append, List.map_cons, List.map_nil] at hb ⊢
    rcases hb with rfl | rfl | hb | hb | hb | hb | hb
    · exact .inr ⟨hp, hlp⟩
    · exact .inl (.inr (.inl rfl))
    · exact .inl (.inr (.inr (.inl hb)))
    · exact .inl (.inr (.inr (.inr (.inl hb))))
    · exact .inl (.inr (.inr (.inr (.inr hb))))
    · exact .inl (.inl hb)
    · cases hb
  · rcases mem_wfp.1 hb with e | hg
    · omega
    · exact h.pr.pq (mem_wfp.2 (.inr hg))
  · have hkl := own_lt h.pr.rf.own hk
    rcases mem_wfp.1 hb with e | hg
    · omega
    · exact h.pr.ap k hk (mem_wfp.2 (.inr hg))
  · rcases List.mem_append.1 ho with ho | ho
    · exact (h.od o ho).keep hc (by simp)
    · obtain rfl : o = (p, a) := by simpa using ho
      exact h.pr.rd.keep hc (by simp)
  · rcases List.mem_append.1 ho with ho | ho
    · have h1 := h.op o ho
      have h2 := (h.od o ho).lt o.1 (mem_wfp.2 (.inl rfl))
      exact ⟨by omega, h1.2⟩
    · obtain rfl : o = (p, a) := by simpa using ho
      exact ⟨by simp; omega, fun e => h.pr.pq (mem_wfp.2 (.inl e.symm))⟩
end

theorem TakeSt.start {W w4 w5 : World} {p g cap : Nat} {bs : List Nat} {ao : Option Addr} (hr : Rdr w4 p (some g) bs 0) (own5 : Own w5 5 1 (.slice ao (bitsOfBytes bs).length cap) (bitsOfBytes bs).length ((bitsOfBytes bs).map b8))
    (new5 : New w4 (.slice ao (bitsOfBytes bs).length cap)) (hc5 : Chg [] w4 w5) (hw : Chg [] W w4) (hp : W.heap.size ≤ p) (hl : bs.length ≤ 137438953472) (C : Obj) (hC : C = .cells #[.slice ao (bitsOfBytes bs).length cap, z64 0] 61 (0, 0)) :
    TakeSt W (w5.alloc C) p (some g) bs 0 w5.heap.size ao cap [] (.slice none 0 0) 0 [] (.slice none 0 0) 0 [] := by
  subst hC
  have hpl := hr.lt p (mem_wfp.2 (.inl rfl))
  have hgl := hr.lt g (mem_wfp.2 (.inr rfl))
  have h45 := hc5.size
  have hW := hw.size
  have hw6 : Chg [] w4 (w5.alloc (.cells #[.slice ao (bitsOfBytes bs).length cap, z64 0] 61 (0, 0))) := hc5.alloc _
  refine ⟨Shelf.start (hw.trans hw6 (by simp)) (fun b hb => ?_) _ _, ⟨hr.keep hw6 (by simp), ⟨heap_new _ _, ((Chg.refl [] w5).alloc _).owns own5 (by simp), fun h => ?_, isBits_bitsOfBytes _, Nat.zero_le _, by rw [length_bitsOfBytes]; omega⟩, fun hb => ?_, fun k hk hb => ?_⟩, (fun o ho => by cases ho), (fun o ho => by cases ho), hp, by omega⟩
  · rw [World.size_alloc]
    simp only [takeF, List.mem_cons, List.mem_append, Option.mem_toList, List.map_nil] at hb
    rcases hb with rfl | rfl | hb | hb | hb
    · omega
    · omega
    · simp at hb; omega
    · have := own_lt own5 hb; omega
    · cases hb
  · have := own_lt own5 h; omega
  · rcases mem_wfp.1 hb with e | e
    · omega
    · simp at e; omega
  · have := new5 k hk
    rcases mem_wfp.1 hb with e | e
    · omega
    · simp at e; omega

/-! ### The argument []Ask -/
theorem open_asks {H : Type} {enc : TypeId × Value → H} {W : World} {base : Nat} {v : Value} {d : DataW H} {p : List MemPlace}
    (o : Value.okWide Try.prog W .any base 58 v) (h : DataW.Trod enc Try.prog W 0 (fun _ => true) true 58 v d p) :
    ∃ (so : Option Addr) (len cap : Nat) (ks ns : Nat → Int), v = .slice so len cap ∧ len ≤ maxLen ∧ ∀ i, i < len → ∃ b off, so = some ⟨b, off, none⟩ ∧ W.cell? ⟨b, off + i * 2, none⟩ = some (z64 (ks i)) ∧ W.cell? ⟨b, off + i * 2 + 1, none⟩ = some (z64 (ns i)) ∧
      (-9223372036854775808 ≤ ks i ∧ ks i ≤ 9223372036854775807) ∧ (-9223372036854775808 ≤ ns i ∧ ns i ≤ 9223372036854775807) := by
  obtain ⟨ao, len, cap, rfl⟩ := okWide_slice Try.underlying58 o
  obtain ⟨fuel, hf⟩ := h
  rcases Go.Deep.open_slice_pairs Try.underlying58 Try.underlying64 (by kernel_rfl) rfl rfl (by kernel_rfl) (by kernel_rfl) hf with ⟨hcs, hx⟩ | ⟨a, len', cap', m', n', V0, V1, D0, D1, P0, P1, hcs, _, hle, hmax, hm', hx, hall⟩
  · simp [Value.cells] at hcs
    obtain ⟨rfl, rfl, rfl⟩ := hcs
    exact ⟨none, 0, 0, fun _ => 0, fun _ => 0, rfl, by simp, fun i hi => by omega⟩
  · simp [Value.cells] at hcs
    obtain ⟨rfl, rfl, rfl⟩ := hcs
    have hmm : m' = cap := by simpa using hm'
    refine ⟨some a, len, cap, fun i => intOf (V0 i), fun i => intOf (V1 i), rfl, by omega, fun i hi => ?_⟩
    obtain ⟨h1, h2, h3, h4⟩ := hall i (by omega)
    obtain ⟨z0, e0, _, b0⟩ := DataW.trod_int Try.underlying3 h3
    obtain ⟨z1, e1, _, b1⟩ := DataW.trod_int Try.underlying3 h4
    have e0' : V0 i = z64 z0 := by simpa using e0
    have e1' : V1 i = z64 z1 := by simpa using e1
    obtain ⟨b, off, spot⟩ := a
    have hspot : spot = none := by
      simpa [Addr.add] using World.cell?_spot (hall 0 (by omega)).1
    subst hspot
    rw [addr_add] at h1 h2
    simp only [e0', e1'] at h1 h2 ⊢
    exact ⟨b, off, rfl, h1, by rw [Nat.add_assoc]; exact h2, bounds_i64 b0, bounds_i64 b1⟩
end Go.Proofs.Ytfnhbggomachoaa

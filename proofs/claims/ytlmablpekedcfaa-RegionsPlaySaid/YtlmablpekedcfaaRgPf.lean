/- RegionsPlay: the document's Move. -/
import Derived.Test.YtlmablpekedcfaaRgPe
import Derived.Test.YtlmablpekedcfaaRgPd
set_option linter.unusedVariables false
namespace Go.Proofs.Ytlmablpekedcfaa
open Go.RowKit Pal Pal.Rg

/-- The list as it was is stored back. -/
theorem bx_back {w w2 : World} {p b b2 : Nat} {L M : List Reg} {ao : Option Addr} {cap : Nat} (h : Bx w p b L) (hp : w.heap[p]? = some (.cells #[.slice ao L.length cap] 63 (0, 0))) (h2 : Bx w2 p b2 M) (hc : Chg [p] w w2) :
    Bx (w2.setCell ⟨p, 0, none⟩ (.slice ao L.length cap)) p b L := by
  obtain ⟨v, h1, hrd, hat, hbl, h5⟩ := h
  obtain ⟨v2, g1, _⟩ := h2
  have hv : v = .slice ao L.length cap := by
    have := h1.symm.trans hp
    simpa using this
  have hcc : Chg [p] w (w2.setCell ⟨p, 0, none⟩ (.slice ao L.length cap)) := hc.setCell (.inl (by simp)) _
  refine ⟨v, ?_, hrd.keep hcc (fun k hk => by simp; exact (hat.blk k hk).2), hat, Nat.lt_of_lt_of_le hbl hcc.size, h5⟩
  have := heap_set (p := p) (i := 0) (u := .slice ao L.length cap) g1
  rw [this, hv]
  rfl

set_option maxRecDepth 100000 in
set_option maxHeartbeats 4000000 in
theorem move_rf {w : World} {p b : Nat} {L : List Reg} (h : Bx w p b L) (a t : Int) :
    Calls Try.prog 48 #[.pointer (some ⟨p, 0, none⟩), z64 a, z64 t] w fun e w' => ∃ b', e = .returned (z64 (moveR L a t).1) ∧ Bx w' p b' (moveR L a t).2 ∧ Chg [p] w w' ∧ (b' = b ∨ w.heap.size ≤ b') := by
  have HT := Pal.hid (take_rf h a)
  have H := Pal.hid h
  obtain ⟨ao, cap, hp, hmc, hrd, -⟩ := slice_bx h
  have hpl := h.lt
  have c0 : w.cell? ⟨p, 0, none⟩ = some (.slice ao L.length cap) := (cell_at (i := 0) hp).trans rfl
  have HP := Pal.hid hp
  obtain ⟨hok, hll⟩ := h.ok
  have HOK := Pal.hid hok
  clear hp hrd hok
  cases hf : findL L a with
  | none =>
    have ht : takeR L a = ((0, 0, 0), 7, L) := by unfold takeR; rw [hf]
    have hm : moveR L a t = (7, L) := by unfold moveR; rw [hf]
    rw [ht] at HT
    rw [hm]
    clear h ht hm
    go_enter Try.func48, Try.ntmps48
    go_wp2_with fail
    refine HT.out.mono ?_
    rintro e w1 ⟨b1, rfl, hr, hc, hb⟩
    have HR := Pal.hid hr
    have HC := Pal.hid hc
    have hsz := hc.size
    clear hr hc
    go_wp2_with fail
    go_ret
    exact ⟨b1, rfl, HR.out.keep ((Chg.refl [] w1).alloc _) (by simp) (by simp), HC.out.alloc _, hb⟩
  | some B =>
    rw [take_some hf] at HT
    rw [move_some hf]
    dsimp only at HT
    have hlt : B < L.length := by
      obtain ⟨hB, x, hx, hst⟩ := findL_some hf
      exact (List.getElem?_eq_some_iff.1 hx).1
    generalize L.getD B (0, 0, 0) = x at HT ⊢
    obtain ⟨k, s, n⟩ := x
    generalize L.eraseIdx B = M at HT ⊢
    clear h hf
    unfold mvR
    dsimp only [kd, ln]
    by_cases hm : May (k, t, n)
    · have HMB : Hid (mayB (k, t, n) = true) := show _ = _ by simp [mayB, hm]
      rw [if_pos hm]
      have HPU0 := Pal.hid (fun (wx : World) (hc : Bx wx p b M) => hc)
      have HM := Pal.hid hm
      obtain ⟨q, hq⟩ : ∃ q, q = putQ M (k, t, n) := ⟨_, rfl⟩
      have hq2 : q = putQ M (k, t, n) := hq
      have HQ := Pal.hid hq
      rw [← hq2]
      clear hq hq2 hm HPU0
      by_cases hq0 : q = 0
      · subst hq0
        rw [if_pos rfl]
        go_enter Try.func48, Try.ntmps48
        go_wp2_with fail
        refine HT.out.mono ?_
        rintro e w1 ⟨b1, rfl, hr, hc, hb⟩
        have HR := Pal.hid hr
        have HC := Pal.hid hc
        have hsz := hc.size
        clear hr hc
        go_wp2_with fail
        have hal : Chg [] w1 (w1.alloc (.cells #[z64 k, z64 t, z64 n] 31)) := (Chg.refl _ _).alloc _
        have hxb := heap_new w1 (.cells #[z64 k, z64 t, z64 n] 31)
        refine (refmay_any k t n _).mono ?_
        rintro e w2 ⟨rfl, hc2⟩
        have hx := hc2.heap hxb (by simp)
        have hc12 : Chg [] w1 w2 := hal.trans hc2 (by simp)
        have HR2 := Pal.hid (HR.out.keep hc12 (by simp) (by simp))
        have HC2 := Pal.hid (HC.out.trans hc12 (by simp))
        have hs2 := hc12.size
        have hsx : w1.heap.size < w2.heap.size := lt_heap hx
        have x0 : w2.cell? ⟨w1.heap.size, 0, none⟩ = some (z64 k) := (cell_at (i := 0) hx).trans rfl
        have x1 : w2.cell? ⟨w1.heap.size, 1, none⟩ = some (z64 t) := (cell_at (i := 1) hx).trans rfl
        have x2 : w2.cell? ⟨w1.heap.size, 2, none⟩ = some (z64 n) := (cell_at (i := 2) hx).trans rfl
        clear hal hxb hc2 hc12 hx
        rw [HMB.out]
        have hpu := put_rf HR2.out k t n HM.out
        rw [← HQ.out, if_pos rfl] at hpu
        have HPU := Pal.hid hpu
        clear hpu
        go_wp2_with fail
        refine HPU.out.mono ?_
        rintro e w3 ⟨b3, rfl, hr3, hc3, hb3⟩
        have HR3 := Pal.hid hr3
        have HC3 := Pal.hid hc3
        clear hr3 hc3
        go_wp2_with fail
        go_ret
        exact ⟨b3, rfl, HR3.out, HC2.out.trans HC3.out (by simp), by omega⟩
      · have hqb : (q == 0) = false := by simpa using hq0
        have hqn : (q != 0) = true := by simpa using hq0
        rw [if_neg hq0]
        go_enter Try.func48, Try.ntmps48
        go_wp2_with fail
        refine HT.out.mono ?_
        rintro e w1 ⟨b1, rfl, hr, hc, hb⟩
        have HR := Pal.hid hr
        have HC := Pal.hid hc
        have hsz := hc.size
        clear hr hc
        go_wp2_with fail
        have hal : Chg [] w1 (w1.alloc (.cells #[z64 k, z64 t, z64 n] 31)) := (Chg.refl _ _).alloc _
        have hxb := heap_new w1 (.cells #[z64 k, z64 t, z64 n] 31)
        refine (refmay_any k t n _).mono ?_
        rintro e w2 ⟨rfl, hc2⟩
        have hx := hc2.heap hxb (by simp)
        have hc12 : Chg [] w1 w2 := hal.trans hc2 (by simp)
        have HR2 := Pal.hid (HR.out.keep hc12 (by simp) (by simp))
        have HC2 := Pal.hid (HC.out.trans hc12 (by simp))
        have hs2 := hc12.size
        have hsx : w1.heap.size < w2.heap.size := lt_heap hx
        have x0 : w2.cell? ⟨w1.heap.size, 0, none⟩ = some (z64 k) := (cell_at (i := 0) hx).trans rfl
        have x1 : w2.cell? ⟨w1.heap.size, 1, none⟩ = some (z64 t) := (cell_at (i := 1) hx).trans rfl
        have x2 : w2.cell? ⟨w1.heap.size, 2, none⟩ = some (z64 n) := (cell_at (i := 2) hx).trans rfl
        clear hal hxb hc2 hc12 hx
        rw [HMB.out]
        have hpu := put_rf HR2.out k t n HM.out
        rw [← HQ.out, if_neg hq0] at hpu
        have HPU := Pal.hid hpu
        clear hpu
        go_wp2_with fail
        refine HPU.out.mono ?_
        rintro e w3 ⟨b3, rfl, hr3, hc3, hb3⟩
        have HR3 := Pal.hid hr3
        obtain ⟨v3, hv3, _⟩ := hr3
        have c3 : w3.cell? ⟨p, 0, none⟩ = some v3 := (cell_at (i := 0) hv3).trans rfl
        have f3 : w3.frozen? ⟨p, 0, none⟩ = false := free_at hv3
        have pl3 := lt_heap hv3
        have HC3 := Pal.hid (HC2.out.trans hc3 (by simp))
        clear hc3 hv3
        go_wp2_with fail
        go_ret
        exact ⟨b, rfl, bx_back H.out HP.out HR3.out HC3.out, HC3.out.setCell (.inl (by simp)) _, .inl rfl⟩
    · have HMB : Hid (mayB (k, t, n) = false) := show _ = _ by simp [mayB, hm]
      rw [if_neg hm]
      clear hm
      go_enter Try.func48, Try.ntmps48
      go_wp2_with fail
      refine HT.out.mono ?_
      rintro e w1 ⟨b1, rfl, hr, hc, hb⟩
      have HR := Pal.hid hr
      have HC := Pal.hid hc
      have hsz := hc.size
      clear hr hc
      go_wp2_with fail
      have hal : Chg [] w1 (w1.alloc (.cells #[z64 k, z64 t, z64 n] 31)) := (Chg.refl _ _).alloc _
      have hxb := heap_new w1 (.cells #[z64 k, z64 t, z64 n] 31)
      refine (refmay_any k t n _).mono ?_
      rintro e w2 ⟨rfl, hc2⟩
      have hx := hc2.heap hxb (by simp)
      have hc12 : Chg [] w1 w2 := hal.trans hc2 (by simp)
      have HR2 := Pal.hid (HR.out.keep hc12 (by simp) (by simp))
      have HC2 := Pal.hid (HC.out.trans hc12 (by simp))
      have hs2 := hc12.size
      have hsx : w1.heap.size < w2.heap.size := lt_heap hx
      have x0 : w2.cell? ⟨w1.heap.size, 0, none⟩ = some (z64 k) := (cell_at (i := 0) hx).trans rfl
      have x1 : w2.cell? ⟨w1.heap.size, 1, none⟩ = some (z64 t) := (cell_at (i := 1) hx).trans rfl
      have x2 : w2.cell? ⟨w1.heap.size, 2, none⟩ = some (z64 n) := (cell_at (i := 2) hx).trans rfl
      clear hal hxb hc2 hc12 hx
      rw [HMB.out]
      have hr2 := HR2.out
      obtain ⟨v3, hv3, _⟩ := hr2
      have c3 : w2.cell? ⟨p, 0, none⟩ = some v3 := (cell_at (i := 0) hv3).trans rfl
      have f3 : w2.frozen? ⟨p, 0, none⟩ = false := free_at hv3
      have pl3 := lt_heap hv3
      clear hv3
      go_wp2_with fail
      go_ret
      exact ⟨b, rfl, bx_back H.out HP.out HR2.out HC2.out, HC2.out.setCell (.inl (by simp)) _, .inl rfl⟩
end Go.Proofs.Ytlmablpekedcfaa

/- Contracts over regions: All and Gaps (the values), Ask. -/
import Derived.Test.YtlmablpekedcfaaRgG
set_option linter.unusedVariables false
namespace Go.Proofs.Ytlmablpekedcfaa
open Go.RowKit Pal Pal.Rg

abbrev seqV (f : Nat) (B : Nat) : Value := .func (.func f) #[] #[.pointer (some ⟨B, 0, none⟩)]
/-- A box with a slice of regions, that is gone over. -/
def Seq (w : World) (B b : Nat) (L : List Reg) : Prop := ∃ v, w.heap[B]? = some (.cells #[v] 22 (0, 0)) ∧ Rd w 3 v L.length (regC L) ∧ SlAt v b B ∧ b < w.heap.size ∧ L.length ≤ 65536
theorem Seq.keep {S : List Nat} {w w' : World} {B b : Nat} {L : List Reg} (h : Seq w B b L) (hc : Chg S w w') (hp : B ∉ S) (hb : b ∉ S) : Seq w' B b L := by
  obtain ⟨v, h1, h2, h3, h4, h5⟩ := h
  exact ⟨v, hc.heap h1 hp, h2.keep hc (fun k hk => by rw [(h3.blk k hk).1]; exact hb), h3, Nat.lt_of_lt_of_le h4 hc.size, h5⟩
theorem values_any (ao : Option Addr) (n cap : Nat) (w : World) : Calls Try.prog 40 #[.slice ao n cap] w fun e w' => e = .returned (seqV 56 w.heap.size) ∧ w'.heap[w.heap.size]? = some (.cells #[.slice ao n cap] 22 (0, 0)) ∧ Chg [] w w' := by
  go_enter Try.func40, Try.ntmps40
  go_wp2
  go_ret
  exact ⟨rfl, heap_new _ _, (Chg.refl _ _).alloc _⟩
theorem all_rg {w : World} {p b : Nat} {L : List Reg} (h : Rs w p b L) : Calls Try.prog 16 #[.pointer (some ⟨p, 0, none⟩)] w fun e w' =>
    ∃ B b', e = .returned (seqV 56 B) ∧ Seq w' B b' L ∧ Chg [] w w' ∧ w.heap.size ≤ B ∧ w.heap.size ≤ b' := by
  have hN := Pal.hid (none_rg h)
  obtain ⟨hok, hll⟩ := h.ok
  obtain ⟨ao, cap, hp, hmc, hrd⟩ := slice_rs h
  have hC := Pal.hid (clone_rg (.slice ao L.length cap) L w hrd (by omega))
  have hl := lt_heap hp
  have c0 : w.cell? ⟨p, 0, none⟩ = some (.slice ao L.length cap) := (cell_at (i := 0) hp).trans rfl
  clear hp hrd
  go_enter Try.func16, Try.ntmps16
  go_wp2_with fail
  refine hN.out.mono ?_
  rintro e w' ⟨rfl, rfl⟩
  go_wp2_with fail
  refine hC.out.mono ?_
  rintro e w5 ⟨v', rfl, ho, hch, hnew⟩
  obtain ⟨ao5, cp5, rfl⟩ := own_slice ho
  have hsz := hch.size
  go_wp2_with fail
  refine (values_any _ _ _ _).mono ?_
  rintro e w6 ⟨rfl, hb6, hc6⟩
  go_wp2_with fail
  go_ret
  have hz := lt_heap hb6
  have hrd6 := ho.rd.keep hc6 (by simp)
  rcases own_shape ho with ⟨hv, _, _⟩ | ⟨g, cp, hv, _, _, hg⟩
  · exact ⟨w5.heap.size, w5.heap.size, rfl, ⟨_, hb6, hrd6, .inl hv, hz, hll⟩, hch.trans hc6 (by simp), hsz, hsz⟩
  · have hgn : w.heap.size ≤ g := hnew g (by rw [hv]; rfl)
    exact ⟨w5.heap.size, g, rfl, ⟨_, hb6, hrd6, .inr ⟨0, _, cp, hv, by omega⟩, by omega, hll⟩, hch.trans hc6 (by simp), hsz, hgn⟩
theorem store_func (P : Program) (w : World) (a : Addr) (m : Mode) (fn : Fn) (f c : Array Value) : (store a (.func fn f c) m).run P w = stored P w a (.func fn f c) m := run_store P w a _ m rfl
attribute [local go_sem] store_func
/-- What Gaps hands back. -/
abbrev gapsV (U N A : Nat) : Value := .func (.func 42) #[] #[.pointer (some ⟨U, 0, none⟩), .pointer (some ⟨N, 0, none⟩), .pointer (some ⟨A, 0, none⟩)]
theorem gaps_rg {w : World} {p b : Nat} {L : List Reg} (h : Rs w p b L) (u : Int) : Calls Try.prog 17 #[.pointer (some ⟨p, 0, none⟩), z64 u] w fun e w' =>
    ∃ U N A B b', e = .returned (gapsV U N A) ∧ Seq w' B b' L ∧ w'.heap[U]? = some (.cells #[z64 u] 2 (0, 0)) ∧ w'.heap[N]? = some (.cells #[.bool false] 4 (0, 0)) ∧ w'.heap[A]? = some (.cells #[seqV 56 B] 43 (0, 0)) ∧ Chg [] w w' ∧ w.heap.size ≤ B ∧ w.heap.size ≤ b' ∧ w.heap.size ≤ U ∧ w.heap.size ≤ N ∧ w.heap.size ≤ A := by
  have c1 : Chg [] w (w.alloc (.cells #[z64 u] 2)) := (Chg.refl _ _).alloc _
  have hA := Pal.hid (all_rg (h.keep c1 (by simp) (by simp)))
  have hN := Pal.hid (fun (w' : World) (hc : Chg [] w w') => none_rg (h.keep hc (by simp) (by simp)))
  have hbox : (w.alloc (.cells #[z64 u] 2)).heap[w.heap.size]? = some (.cells #[z64 u] 2 (0, 0)) := heap_new _ _
  have hz : (w.alloc (.cells #[z64 u] 2)).heap.size = w.heap.size + 1 := World.size_alloc _ _
  have HB := Pal.hid hbox
  have HZ := Pal.hid hz
  clear h hbox hz
  go_enter Try.func17, Try.ntmps17
  go_wp2_with fail
  refine hA.out.mono ?_
  rintro e w1 ⟨B, b', rfl, hs, hc, hB, hb⟩
  have HS := Pal.hid hs
  have HC := Pal.hid hc
  have k1 : Chg [] w (w1.alloc (.cells #[seqV 56 B] 43)) := (c1.trans hc (by simp)).alloc _
  clear hs hc
  go_wp2_with fail
  refine (hN.out _ k1).mono ?_
  rintro e w' ⟨rfl, rfl⟩
  go_wp2_with fail
  go_ret
  have z1 := HC.out.size
  have z0 := HZ.out
  have ca := ((Chg.refl [] w1).alloc (.cells #[seqV 56 B] 43)).alloc (.cells #[.bool false] 4)
  refine ⟨w.heap.size, w1.heap.size + 1, w1.heap.size, B, b', ?_, HS.out.keep ca (by simp) (by simp), (HC.out.trans ca (by simp)).heap HB.out (by simp), ?_, heap_old (heap_new _ _), k1.alloc _, by omega, by omega, by omega, by omega, by omega⟩
  · rfl
  · have := heap_new (w1.alloc (.cells #[seqV 56 B] 43)) (.cells #[.bool false] 4)
    rw [World.size_alloc] at this
    exact this

/-- A list of numbers as cells. -/
theorem ask1_any (k : Int) (w : World) : Calls Try.prog 37 #[z64 k] w fun e w' => e = .returned (.bool (!kindB k)) ∧ w = w' := by
  have hk := Pal.hid (kind_any k w)
  generalize kindB k = m at *
  go_enter Try.func37, Try.ntmps37
  go_wp2_with fail
  refine hk.out.mono ?_
  rintro e w1 ⟨rfl, rfl⟩
  cases m
  · go_wp2_with fail
    go_ret
    exact ⟨rfl, rfl⟩
  · go_wp2_with fail
    go_ret
    exact ⟨rfl, rfl⟩
abbrev kindF : Value := .func (.func 37) #[] #[]
set_option maxRecDepth 100000 in
set_option maxHeartbeats 4000000 in
theorem indexI_any (v : Value) (bs : List Int) (w : World) (hrd : Rd w 1 v bs.length (bs.map z64)) (hl : bs.length ≤ 1000000) :
    Calls Try.prog 55 #[v, kindF] w fun e w' => ∃ r : Int, e = .returned (z64 r) ∧ (decide (0 ≤ r) = !bs.all kindB) ∧ w = w' := by
  have HRD := Pal.hid hrd
  obtain ⟨ao, cap, rfl, _⟩ := hrd
  go_enter Try.func55, Try.ntmps55
  go_wp2_with fail
  go_loopw [8] (fun iv wr => ∃ i : Nat, i ≤ bs.length ∧ iv = z64 i ∧ (∀ j x, j < i → bs[j]? = some x → kindB x = true) ∧ w = wr) (fun iv _ => bs.length - (intOf iv).toNat)
  case atStart => exact ⟨0, Nat.zero_le _, rfl, fun j x h => by omega, rfl⟩
  case round =>
    obtain ⟨i, hi, rfl, hall, rfl⟩ := hrel
    have HALL := Pal.hid hall
    clear hall
    by_cases hlt : i < bs.length
    · have hlti : (i : Int) < bs.length := by omega
      obtain ⟨b1, off, cb1, hv, hmc, hblt, hcell⟩ := HRD.out.at (by simp; omega)
      simp only [Value.slice.injEq] at hv
      obtain ⟨rfl, _, rfl⟩ := hv
      have hge : bs[i]? = some bs[i] := List.getElem?_eq_getElem hlt
      have d0 := hcell i (z64 bs[i]) (by simp [hlt])
      generalize bs[i] = k at d0 hge
      have hm := Pal.hid (fun w => ask1_any k w)
      have HGE := Pal.hid hge
      have hwi : IntKind.i64.wrap ((i : Int) + 1) = ((i + 1 : Nat) : Int) := IntWalk.i64_in _ (by omega)
      obtain ⟨mb, hmb⟩ : ∃ mb, mb = kindB k := ⟨_, rfl⟩
      rw [← hmb] at hm
      have HMB := Pal.hid hmb
      clear hcell hge hmb
      go_wp2_with fail
      refine (hm.out _).mono ?_
      rintro e w1 ⟨rfl, rfl⟩
      cases mb with
      | true =>
        go_wp2_with fail
        refine ⟨⟨i + 1, by omega, rfl, fun j x hj hx => ?_, trivial⟩, by simp [intOf]; omega⟩
        by_cases hji : j = i
        · subst hji
          rw [HGE.out] at hx
          cases hx
          exact HMB.out.symm
        · exact HALL.out j x (by omega) hx
      | false =>
        go_wp2_with fail
        go_ret
        refine ⟨i, rfl, ?_, rfl⟩
        have : bs.all kindB = false := by
          rw [List.all_eq_false]
          exact ⟨_, List.mem_of_getElem? HGE.out, by rw [← HMB.out]; simp⟩
        rw [this]
        simp
    · obtain rfl : i = bs.length := by omega
      have hlti : ¬ (bs.length : Int) < bs.length := by omega
      go_wp2_with fail
      go_ret
      refine ⟨-1, rfl, ?_, rfl⟩
      have : bs.all kindB = true := by
        rw [List.all_eq_true]
        intro x hx
        obtain ⟨j, hj⟩ := List.getElem?_of_mem hx
        exact HALL.out j x (List.getElem?_eq_some_iff.1 hj).1 hj
      rw [this]
      rfl
theorem containsI_any (v : Value) (bs : List Int) (w : World) (hrd : Rd w 1 v bs.length (bs.map z64)) (hl : bs.length ≤ 1000000) :
    Calls Try.prog 36 #[v, kindF] w fun e w' => e = .returned (.bool (!bs.all kindB)) ∧ w = w' := by
  have hi := Pal.hid (indexI_any v bs w hrd hl)
  obtain ⟨ao, cap, rfl, _⟩ := hrd
  go_enter Try.func36, Try.ntmps36
  go_wp2_with fail
  refine hi.out.mono ?_
  rintro e w1 ⟨r, rfl, hr, rfl⟩
  have HR := Pal.hid hr
  clear hr
  go_wp2_with fail
  go_ret
  exact ⟨by rw [← HR.out]; rfl, rfl⟩
end Go.Proofs.Ytlmablpekedcfaa
